/- Plain: there and back; in chunks; with great letters and blanks. -/
import Derived.Test.YtipjkjcmceeaeaaGreatDoorYBack
namespace Go.Proofs.YtipjkjcmceeaeaaGreatDoor
open Go

theorem field_names {h : Hd} (hf : fieldB h = true) : h.1 ≠ wCl ∧ h.1 ≠ wTe ∧ ofB 1 64 smC h.1 = true ∧ h.2.all plC = true ∧ trimS h.2 = h.2 := by
  unfold fieldB at hf
  simp only [Bool.and_eq_true, decide_eq_true_eq] at hf
  obtain ⟨⟨⟨⟨⟨h1, h2⟩, _⟩, h4⟩, h5⟩, h6⟩ := hf
  exact ⟨h1, h2, h4, h5, h6⟩
theorem readL_fields {f : Hd → Bs} : ∀ (hs : List Hd), (∀ h, h ∈ hs → fieldB h = true ∧ lineH (f h) = some h) → ∀ (R : List Bs) (acc : List Hd) (b : Option Nat) (k : Nat), readL (hs.map f ++ R) acc b k = readL R (acc ++ hs) b k := by
  intro hs
  induction hs with
  | nil => intro _ R acc b k; simp
  | cons h r ih =>
    intro hh R acc b k
    obtain ⟨h1, h2⟩ := hh h (by simp)
    obtain ⟨n1, n2, _⟩ := field_names h1
    rw [List.map_cons, List.cons_append, readL, h2]
    simp only
    rw [if_neg (by rintro (e | e); exact n1 e; exact n2 e), ih (fun h' hh' => hh h' (List.mem_cons_of_mem _ hh'))]
    simp
/-- A field's line, as it is laid. -/
def line0 (h : Hd) : Bs := h.1 ++ [58] ++ (List.replicate 1 32 ++ h.2 ++ List.replicate 0 32)
theorem sm_of {l h : Nat} {n : Bs} (hn : ofB l h smC n = true) : ofB l h nmC n = true := by
  obtain ⟨h1, h2, h3⟩ := ofB_all hn
  unfold ofB
  rw [all_mono (fun _ => sm_nm) h1, decide_eq_true h2, decide_eq_true h3]; rfl
theorem line0_read {h : Hd} (hf : fieldB h = true) : lineH (line0 h) = some h := by
  obtain ⟨_, _, h3, _, h5⟩ := field_names hf
  unfold line0
  rw [line_field (w := h.1) (sm_of h3) (low_sm (ofB_all h3).1), h5]
theorem line0_ok {h : Hd} (hf : fieldB h = true) : LineOk (line0 h) := by
  obtain ⟨_, _, h3, h4, _⟩ := field_names hf
  refine ⟨by simp [line0], ?_⟩
  unfold line0
  exact all_app (all_app (all_mono (fun c hc => nm_ln (sm_nm hc)) (ofB_all h3).1) (by decide)) (all_app (all_app (by decide) (all_mono (fun _ => pl_ln) h4)) (by decide))
theorem decV_snoc : ∀ (x : Bs) (a : Nat) (c : UInt8), decV a (x ++ [c]) = 10 * decV a x + (c.toNat - 48) := by
  intro x
  induction x with
  | nil => intro a c; rfl
  | cons d r ih => intro a c; exact ih _ _
theorem dig_nat {k : Nat} (h : k < 10) : (UInt8.ofNat (48 + k)).toNat = 48 + k := by
  rw [UInt8.toNat_ofNat']; omega
theorem num_spec (n : Nat) : decV 0 (numS n) = n ∧ (numS n).all dgC = true ∧ (0 < n → (numS n).head? ≠ some 48) ∧ numS n ≠ [] := by
  unfold numS
  induction n using Nat.strongRecOn with
  | _ n ih =>
    by_cases h : n < 10
    · rw [Lib.decDigits_one h]
      have hd := dig_nat h
      refine ⟨?_, ?_, ?_, by simp⟩
      · show 10 * 0 + ((UInt8.ofNat (48 + n)).toNat - 48) = n
        rw [hd]; omega
      · rw [List.all_cons, List.all_nil, Bool.and_true]
        unfold dgC
        rw [hd]; exact decide_eq_true ⟨by omega, by omega⟩
      · intro h0 e
        have := congrArg (fun x : Option UInt8 => x.map UInt8.toNat) e
        simp only [List.head?_cons, Option.map_some, hd] at this
        have : 48 + n = 48 := Option.some.inj this
        omega
    · have e : Lib.decDigits n = Lib.decDigits (n / 10) ++ [UInt8.ofNat (48 + n % 10)] := by rw [Lib.decDigits, dif_neg h]
      obtain ⟨h1, h2, h3, h4⟩ := ih (n / 10) (by omega)
      have hd := dig_nat (k := n % 10) (by omega)
      rw [e]
      refine ⟨?_, ?_, ?_, by simp⟩
      · rw [decV_snoc, h1, hd]; omega
      · rw [List.all_append, h2]
        rw [List.all_cons, List.all_nil, Bool.and_true, Bool.true_and]
        unfold dgC
        rw [hd]; exact decide_eq_true ⟨by omega, by omega⟩
      · intro h0
        obtain ⟨c, l, hl⟩ := List.exists_cons_of_ne_nil h4
        have := h3 (by omega)
        rw [hl] at this ⊢
        exact this
theorem num_len {n : Nat} (h : n < 1000000000) : 1 ≤ (numS n).length ∧ (numS n).length ≤ 9 := by
  have h1 : (numS n).length = Lib.nDigits n := Lib.decDigits_length n
  have h2 := Lib.nDigits_pos n
  refine ⟨by omega, ?_⟩
  rw [h1]
  have : ∀ k u : Nat, u < 10 ^ k → 1 ≤ k → Lib.nDigits u ≤ k := by
    intro k
    induction k with
    | zero => intro u _ h; omega
    | succ k ih =>
      intro u hu _
      by_cases hu10 : u < 10
      · rw [Lib.nDigits_small hu10]; omega
      · rw [Lib.nDigits_big hu10]
        have : 1 ≤ k := by
          rcases Nat.eq_zero_or_pos k with rfl | h
          · simp at hu; omega
          · exact h
        have := ih (u / 10) (by rw [Nat.pow_succ] at hu; omega) this
        omega
  exact this 9 n (by simpa using h) (by decide)
theorem trim_id {v : Bs} (h : ∀ j : Nat, v[j]? ≠ some 32) : trimS v = v := by
  have key : ∀ l : Bs, (∀ j : Nat, l[j]? ≠ some 32) → l.dropWhile (· == 32) = l := by
    intro l hl
    cases l with
    | nil => rfl
    | cons a r =>
      rw [List.dropWhile_cons, if_neg]
      intro e
      exact hl 0 (by rw [beq_iff_eq.1 e]; rfl)
  unfold trimS Lib.trimB Lib.trimLeftB Lib.trimRightB
  rw [key v.reverse, List.reverse_reverse, key v h]
  intro j hj
  rw [List.getElem?_reverse (by have := (List.getElem?_eq_some_iff.1 hj).1; simpa using this)] at hj
  exact h _ hj
/-- The line that tells a body's length. -/
def lineN (n : Nat) : Bs := wCl ++ [58] ++ (List.replicate 1 32 ++ numS n ++ List.replicate 0 32)
theorem dg_32 {l : Bs} (h : l.all dgC = true) : ∀ j : Nat, l[j]? ≠ some 32 := not_of h (by decide)
theorem lineN_read (n : Nat) : lineH (lineN n) = some (wCl, numS n) := by
  unfold lineN
  rw [line_field (w := wCl) (by decide) (by decide), trim_id (dg_32 (num_spec n).2.1)]
theorem lineN_ok (n : Nat) : LineOk (lineN n) := by
  refine ⟨by simp [lineN], ?_⟩
  unfold lineN
  exact all_app (all_app (by decide) (by decide)) (all_app (all_app (by decide) (all_mono (fun c hc => nm_ln (sm_nm (by unfold smC; rw [hc]; simp))) (num_spec n).2.1)) (by decide))
theorem lenF_num {n : Nat} (h0 : 0 < n) (h : n < 1000000000) : lenF (wCl, numS n) = some (some n) := by
  obtain ⟨h1, h2, h3, h4⟩ := num_spec n
  obtain ⟨h5, h6⟩ := num_len h
  unfold lenF
  rw [if_neg (show ¬ wCl = wTe by decide), if_pos]
  · rw [h1]
  · refine ⟨?_, fun hh => h3 h0 hh.1⟩
    unfold ofB
    rw [h2, decide_eq_true h5, decide_eq_true h6]; rfl
theorem form_parts {q : Rq} (h : formB q = true) : ofB 1 16 upC q.m = true ∧ ofB 1 1024 taC q.t = true ∧ q.t.head? = some 47 ∧ (∀ h, h ∈ q.hs → fieldB h = true) ∧ hosts q.hs = 1 := by
  unfold formB at h
  simp only [Bool.and_eq_true, decide_eq_true_eq, List.all_eq_true] at h
  exact ⟨h.1.1.1.1, h.1.1.1.2, h.1.1.2, h.1.2, h.2⟩
theorem check_parts {q : Rq} (h : checkS q = 0) : q.hs.length ≤ 31 ∧ formB q = true ∧ q.b.length ≤ 8192 ∧ (headS q).length ≤ 8192 := by
  unfold checkS at h
  split at h
  · cases h
  · split at h
    · cases h
    · next hf =>
      split at h
      · cases h
      · refine ⟨by omega, ?_, by omega, by omega⟩
        cases hb : formB q with
        | true => rfl
        | false => exact absurd hb hf
/-- The lines of a head. -/
def linesQ (q : Rq) : List Bs := q.hs.map line0 ++ (if q.b = [] then [] else [lineN q.b.length])
theorem lines_eq (hs : List Hd) : linesS hs = joinL (hs.map line0) := by
  unfold linesS joinL
  rw [List.map_map]
  congr 1
  refine List.map_congr_left fun h _ => ?_
  simp [lineS, line0, List.replicate]
theorem joinL_app (A B : List Bs) : joinL (A ++ B) = joinL A ++ joinL B := by simp [joinL]
theorem head_lines (q : Rq) : headS q = joinL (firstS q.m q.t :: linesQ q) ++ CRLF := by
  unfold headS linesQ
  rw [joinL_cons, joinL_app, lines_eq]
  by_cases hb : q.b = []
  · rw [if_pos hb, if_pos hb]
    simp [firstS, joinL, List.append_assoc]
  · rw [if_neg hb, if_neg hb]
    simp [firstS, joinL, lineN, List.replicate, List.append_assoc]
theorem lines_ok {q : Rq} (hf : formB q = true) : ∀ l, l ∈ linesQ q → LineOk l := by
  obtain ⟨_, _, _, h4, _⟩ := form_parts hf
  intro l hl
  unfold linesQ at hl
  rcases List.mem_append.1 hl with hl | hl
  · obtain ⟨h, hh, rfl⟩ := List.mem_map.1 hl
    exact line0_ok (h4 h hh)
  · split at hl
    · cases hl
    · rcases List.mem_cons.1 hl with rfl | hl
      · exact lineN_ok _
      · cases hl
theorem lines_many (q : Rq) : (linesQ q).length ≤ q.hs.length + 1 := by
  unfold linesQ
  rw [List.length_append, List.length_map]
  split <;> simp
theorem lines_read {q : Rq} (hf : formB q = true) (hl : q.hs.length ≤ 31) (hb : q.b.length < 1000000000) : readLines q.m q.t (linesQ q) = .ok (⟨q.m, q.t, q.hs, []⟩, some q.b.length) := by
  obtain ⟨_, _, _, h4, _⟩ := form_parts hf
  unfold readLines linesQ
  rw [readL_fields q.hs (fun h hh => ⟨h4 h hh, line0_read (h4 h hh)⟩), List.nil_append]
  have hf2 : ¬ formB ⟨q.m, q.t, q.hs, []⟩ = false := by
    rw [show formB ⟨q.m, q.t, q.hs, []⟩ = formB q from rfl, hf]; decide
  by_cases he : q.b = []
  · rw [if_pos he, he]
    simp only [readL]
    rw [if_neg (by rintro (h | h | h); omega; omega; exact hf2 h)]
    rfl
  · rw [if_neg he]
    have hp : 0 < q.b.length := List.length_pos_iff.2 he
    simp only [readL, lineN_read, true_or, if_true, lenF_num hp hb]
    rw [if_neg (by rintro (h | h | h); omega; omega; exact hf2 h)]
/-- What is laid is read as what it was, however it goes on. -/
theorem parse_print {q : Rq} (h : checkS q = 0) (x : Bs) : parseQ (headS q ++ q.b ++ x) = .ok (q, (headS q ++ q.b).length) := by
  obtain ⟨h1, h2, h3, h4⟩ := check_parts h
  obtain ⟨k1, k2, _, _, _⟩ := form_parts h2
  have hm := lines_many q
  rw [head_lines] at h4
  have e : headS q ++ q.b ++ x = joinL (firstS q.m q.t :: linesQ q) ++ CRLF ++ (q.b ++ x) := by rw [head_lines, List.append_assoc]
  have hcl : CRLF.length = 2 := rfl
  rw [List.length_append, hcl] at h4
  rw [e, parse_lines (ofB_all k1).1 (ofB_all k2).1 (lines_ok h2) (by omega), if_neg (by omega), lines_read h2 h1 (by omega)]
  unfold withBody
  simp only
  rw [if_neg (by omega), if_neg (by rw [List.length_append]; omega), List.take_left, head_lines]
  simp only [List.length_append, hcl]
theorem chunk_body : ∀ (f : Nat) (body s b r : Bs), body.length ≤ 8192 → chunkS f body s = .done b r → b.length ≤ 8192 := by
  intro f
  induction f with
  | zero => intro body s b r _ h; cases h
  | succ f ih =>
    intro body s b r hb h
    unfold chunkS at h
    split at h
    · cases h
    · cases h
    · split at h
      · cases h
      · next hn =>
        split at h
        · cases h
        · split at h
          · cases h
          · split at h
            · cases h; exact hb
            · refine ih _ _ _ _ ?_ h
              rw [List.length_append, List.length_take]; omega
theorem readLines_ok {m t : Bs} {L : List Bs} {q : Rq} {k : Option Nat} (h : readLines m t L = .ok (q, k)) : formB q = true ∧ q.hs.length ≤ 31 ∧ q.b = [] := by
  unfold readLines at h
  split at h
  · cases h
  · split at h
    · cases h
    · next hs _ _ _ hh =>
      simp only [Except.ok.injEq, Prod.mk.injEq] at h
      obtain ⟨rfl, _⟩ := h
      refine ⟨?_, Nat.le_of_not_lt fun e => hh (Or.inr (Or.inl e)), rfl⟩
      cases hb : formB ⟨m, t, hs, []⟩ with
      | true => rfl
      | false => exact absurd (Or.inr (Or.inr hb)) hh
theorem readH_ok {s : Bs} {q : Rq} {k : Option Nat} (h : readH s = .ok (q, k)) : formB q = true ∧ q.hs.length ≤ 31 ∧ q.b = [] := by
  unfold readH at h
  split at h
  · cases h
  · split at h
    · cases h
    · split at h
      · split at h
        · exact readLines_ok h
        · cases h
      · cases h
theorem form_b (q : Rq) (b : Bs) : formB { q with b := b } = formB q := rfl
/-- What is read may be, but for its head's length as it would be laid. -/
theorem parse_may {s : Bs} {q : Rq} {n : Nat} (h : parseQ s = .ok (q, n)) : formB q = true ∧ q.hs.length ≤ 31 ∧ q.b.length ≤ 8192 ∧ 0 < n ∧ n ≤ s.length := by
  unfold parseQ withBody at h
  cases hc : cutA HEND s with
  | none => rw [hc] at h; simp only at h; split at h <;> cases h
  | some p =>
    obtain ⟨t, r⟩ := p
    have hsz := congrArg List.length (cutA_some hc).1
    simp only [List.length_append, HEND_len] at hsz
    rw [hc] at h
    simp only at h
    split at h
    · cases h
    · split at h
      · cases h
      · next q' hr =>
        obtain ⟨h1, h2, h3⟩ := readH_ok hr
        split at h
        · cases h
        · cases h
        · next b r' hk =>
          have := chunk_len _ _ _ _ _ hk
          have := chunk_body _ _ _ _ _ (by simp) hk
          cases h
          exact ⟨h1, h2, this, by omega, by omega⟩
      · next q' k hr =>
        obtain ⟨h1, h2, h3⟩ := readH_ok hr
        split at h
        · cases h
        · split at h
          · cases h
          · cases h
            exact ⟨h1, h2, by simp only [List.length_take]; omega, by omega, by omega⟩
theorem check_of {q : Rq} (h1 : formB q = true) (h2 : q.hs.length ≤ 31) : checkS q = 0 ∨ checkS q = 152 := by
  unfold checkS
  rw [if_neg (by omega), if_neg (by rw [h1]; decide)]
  split
  · right; rfl
  · left; rfl
theorem readLines_err {m t : Bs} {L : List Bs} {e : Int} (h : readLines m t L = .error e) : e = 151 := by
  unfold readLines at h
  split at h
  · cases h; rfl
  · split at h <;> cases h
    rfl
theorem readH_err {s : Bs} {e : Int} (h : readH s = .error e) : e = 151 ∨ e = 152 := by
  unfold readH at h
  split at h
  · cases h; right; rfl
  · split at h
    · cases h; left; rfl
    · split at h
      · split at h
        · left; exact readLines_err h
        · cases h; left; rfl
      · cases h; left; rfl
theorem parse_err {s : Bs} {e : Int} (h : parseQ s = .error e) : e = 150 ∨ e = 151 ∨ e = 152 ∨ e = 153 := by
  unfold parseQ withBody at h
  split at h
  · split at h
    · cases h; simp
    · cases h; simp
  · split at h
    · cases h; simp
    · split at h
      · next e' hr =>
        cases h
        rcases readH_err hr with rfl | rfl <;> simp
      · split at h
        · cases h; simp
        · cases h; simp
        · cases h
      · split at h
        · cases h; simp
        · split at h
          · cases h; simp
          · cases h
/-- Each beginning is too short. -/
theorem parse_cut {q : Rq} (h : checkS q = 0) {k : Nat} (hk : k < (headS q ++ q.b).length) : parseQ ((headS q ++ q.b).take k) = .error 150 := by
  have h1 := parse_print h []
  rw [List.append_nil] at h1
  have e : (headS q ++ q.b).take k ++ (headS q ++ q.b).drop k = headS q ++ q.b := List.take_append_drop _ _
  cases hp : parseQ ((headS q ++ q.b).take k) with
  | ok x =>
    obtain ⟨q', n⟩ := x
    have h2 := parse_app ((headS q ++ q.b).drop k) hp
    rw [e, h1] at h2
    have h3 := (parse_may hp).2.2.2.2
    rw [List.length_take] at h3
    simp only [Except.ok.injEq, Prod.mk.injEq] at h2
    omega
  | error x =>
    by_cases hx : x = 150
    · rw [hx]
    · have h2 := parse_app_err ((headS q ++ q.b).drop k) hp hx
      rw [e, h1] at h2
      cases h2
end Go.Proofs.YtipjkjcmceeaeaaGreatDoor
