/- Plain: what is laid is read as what it was. -/
import Derived.Test.YtipjkjcmceeaeaaGreatDoorYGrow
namespace Go.Proofs.YtipjkjcmceeaeaaGreatDoor
open Go

/-- A line's bytes: neither 13 nor 10. -/
def lnC (c : UInt8) : Bool := decide (c ≠ 13 ∧ c ≠ 10)
def LineOk (l : Bs) : Prop := l ≠ [] ∧ l.all lnC = true
/-- Lines, each with its end. -/
def joinL (L : List Bs) : Bs := (L.map (· ++ CRLF)).flatten
/-- Lines with their ends between them. -/
def icl : List Bs → Bs
  | [] => []
  | [l] => l
  | l :: r => l ++ CRLF ++ icl r
theorem joinL_cons (l : Bs) (L : List Bs) : joinL (l :: L) = l ++ CRLF ++ joinL L := rfl
theorem icl_cons (l l2 : Bs) (L : List Bs) : icl (l :: l2 :: L) = l ++ CRLF ++ icl (l2 :: L) := rfl
theorem icl_join : ∀ (L : List Bs), L ≠ [] → joinL L = icl L ++ CRLF := by
  intro L
  induction L with
  | nil => intro h; exact absurd rfl h
  | cons l r ih =>
    intro _
    cases r with
    | nil => simp [joinL, icl]
    | cons l2 r =>
      rw [joinL_cons, ih (by simp), icl_cons]
      simp [List.append_assoc]
theorem occ_head {s sep : Bs} {j : Nat} {c : UInt8} {t : Bs} (hs : sep = c :: t) (h : Lib.occAt s sep j = true) : s[j]? = some c := by
  unfold Lib.occAt at h
  rw [List.isPrefixOf_iff_prefix, hs] at h
  obtain ⟨u, hu⟩ := h
  have : (s.drop j)[0]? = some c := by rw [← hu]; rfl
  rw [List.getElem?_drop] at this
  simpa using this
theorem occ_at {s sep : Bs} {j k : Nat} {c : UInt8} (hk : sep[k]? = some c) (h : Lib.occAt s sep j = true) : s[j + k]? = some c := by
  unfold Lib.occAt at h
  rw [List.isPrefixOf_iff_prefix] at h
  obtain ⟨u, hu⟩ := h
  have hl : k < sep.length := (List.getElem?_eq_some_iff.1 hk).1
  have : (s.drop j)[k]? = some c := by rw [← hu, List.getElem?_append_left hl]; exact hk
  rw [List.getElem?_drop] at this
  exact this
theorem all_at {p : UInt8 → Bool} {l : Bs} (h : l.all p = true) {j : Nat} {c : UInt8} (hc : l[j]? = some c) : p c = true :=
  List.all_eq_true.1 h c (List.mem_of_getElem? hc)
/-- No occurrence ahead of a text that lacks the mark's first byte. -/
theorem no_occ {a sep x : Bs} {c : UInt8} {t : Bs} (hs : sep = c :: t) (h : ∀ j : Nat, a[j]? ≠ some c) : ∀ j, j < a.length → Lib.occAt (a ++ x) sep j = false := by
  intro j hj
  cases ho : Lib.occAt (a ++ x) sep j with
  | false => rfl
  | true =>
    have := occ_head hs ho
    rw [List.getElem?_append_left hj] at this
    exact absurd this (h j)
theorem cutA_first {a x sep : Bs} {c : UInt8} {t : Bs} (hs : sep = c :: t) (h : ∀ j : Nat, a[j]? ≠ some c) : cutA sep (a ++ sep ++ x) = some (a, x) :=
  cutA_of fun j hj => by rw [List.append_assoc]; exact no_occ hs h j hj
theorem cutA_miss {a sep : Bs} {c : UInt8} {t : Bs} (hs : sep = c :: t) (h : ∀ j : Nat, a[j]? ≠ some c) : cutA sep a = none :=
  cutA_none_of fun j _ => by
    cases ho : Lib.occAt a sep j with
    | false => rfl
    | true => exact absurd (occ_head hs ho) (h j)
theorem ln_no {l : Bs} (h : l.all lnC = true) : (∀ j : Nat, l[j]? ≠ some 13) ∧ ∀ j : Nat, l[j]? ≠ some 10 :=
  ⟨fun j hj => by have := all_at h hj; revert this; decide, fun j hj => by have := all_at h hj; revert this; decide⟩
theorem joinL_head {L : List Bs} (hL : ∀ l, l ∈ L → LineOk l) (hne : L ≠ []) (x : Bs) : ∃ c, (joinL L ++ x)[0]? = some c ∧ c ≠ 13 := by
  obtain ⟨l, r, rfl⟩ := List.exists_cons_of_ne_nil hne
  obtain ⟨h1, h2⟩ := hL l (by simp)
  obtain ⟨c, l', rfl⟩ := List.exists_cons_of_ne_nil h1
  refine ⟨c, rfl, fun e => ?_⟩
  subst e
  exact (ln_no h2).1 0 rfl
theorem no_end : ∀ (L : List Bs), (∀ l, l ∈ L → LineOk l) → ∀ (x : Bs) (j : Nat), j + 2 < (joinL L).length → Lib.occAt (joinL L ++ CRLF ++ x) HEND j = false := by
  intro L
  induction L with
  | nil => intro _ x j hj; exact absurd hj (by simp [joinL])
  | cons l r ih =>
    intro hL x j hj
    obtain ⟨h1, h2⟩ := hL l (by simp)
    have hr := fun l' hl' => hL l' (List.mem_cons_of_mem _ hl')
    rw [joinL_cons, List.length_append, List.length_append] at hj
    have hcl : CRLF.length = 2 := rfl
    cases ho : Lib.occAt (joinL (l :: r) ++ CRLF ++ x) HEND j with
    | false => rfl
    | true =>
      exfalso
      have o0 := occ_at (k := 0) (c := 13) rfl ho
      have o1 := occ_at (k := 1) (c := 10) rfl ho
      have o2 := occ_at (k := 2) (c := 13) rfl ho
      rw [joinL_cons] at o0 o1 o2 ho
      simp only [List.append_assoc] at o0 o1 o2 ho
      rcases Nat.lt_trichotomy j l.length with hlt | heq | hgt
      · rw [Nat.add_zero, List.getElem?_append_left hlt] at o0
        exact (ln_no h2).1 j o0
      · by_cases hre : r = []
        · subst hre
          simp only [joinL, List.map_nil, List.flatten_nil, List.length_nil] at hj
          omega
        · obtain ⟨c, hc, hc13⟩ := joinL_head hr hre (CRLF ++ x)
          rw [List.getElem?_append_right (by omega), show j + 2 - l.length = 2 by omega] at o2
          have : (CRLF ++ (joinL r ++ (CRLF ++ x)))[2]? = (joinL r ++ (CRLF ++ x))[0]? := rfl
          rw [this, hc] at o2
          exact hc13 (Option.some.inj o2)
      · by_cases h3 : j = l.length + 1
        · rw [Nat.add_zero, List.getElem?_append_right (by omega), show j - l.length = 1 by omega] at o0
          have : (CRLF ++ (joinL r ++ (CRLF ++ x)))[1]? = some 10 := rfl
          rw [this] at o0
          exact absurd (Option.some.inj o0) (by decide)
        · have h4 := ih hr x (j - (l.length + 2)) (by omega)
          have : Lib.occAt (joinL r ++ CRLF ++ x) HEND (j - (l.length + 2)) = true := by
            unfold Lib.occAt at ho ⊢
            rw [show j = (l ++ CRLF).length + (j - (l.length + 2)) by rw [List.length_append, hcl]; omega, ← List.append_assoc l CRLF, ← List.drop_drop, List.drop_left] at ho
            rw [List.append_assoc]; exact ho
          rw [h4] at this; cases this
/-- Lines, and an empty one behind them, are cut there. -/
theorem cut_lines {L : List Bs} (hne : L ≠ []) (hL : ∀ l, l ∈ L → LineOk l) (x : Bs) : cutA HEND (joinL L ++ CRLF ++ x) = some (icl L, x) := by
  have e : joinL L ++ CRLF ++ x = icl L ++ HEND ++ x := by rw [icl_join L hne]; simp [CRLF, HEND]
  have hl : (joinL L).length = (icl L).length + 2 := by rw [icl_join L hne]; simp [CRLF]
  rw [e]
  refine cutA_of fun j hj => ?_
  rw [← e]
  exact no_end L hL x j (by omega)
theorem split_eq {sep : Bs} (hs : sep ≠ []) (s : Bs) : splitS sep s = match cutA sep s with
    | none => [s]
    | some (a, r) => a :: splitS sep r := by
  unfold splitS Lib.split cutA
  rcases Lib.index_spec s sep with ⟨h1, _⟩ | ⟨i, h1, _, _, _⟩
  · rw [h1, Lib.count_miss h1]; rfl
  · rw [Lib.count_hit hs h1, Nat.add_comm]
    rw [show Lib.splitK sep 0 (Lib.count (s.drop (i + sep.length)) sep + 1) s = s.take ((Lib.index s sep).toNat + 0) :: Lib.splitK sep 0 (Lib.count (s.drop (i + sep.length)) sep) (s.drop ((Lib.index s sep).toNat + sep.length)) by
      rw [Lib.splitK, if_neg (by rw [h1]; simp)]]
    rw [h1, if_pos (by omega)]
    simp
theorem split_one {sep s : Bs} {c : UInt8} {t : Bs} (hs : sep = c :: t) (h : ∀ j : Nat, s[j]? ≠ some c) : splitS sep s = [s] := by
  rw [split_eq (by rw [hs]; simp), cutA_miss hs h]
theorem split_more {sep a x : Bs} {c : UInt8} {t : Bs} (hs : sep = c :: t) (h : ∀ j : Nat, a[j]? ≠ some c) : splitS sep (a ++ sep ++ x) = a :: splitS sep x := by
  rw [split_eq (by rw [hs]; simp), cutA_first hs h]
theorem split_lines : ∀ (L : List Bs), L ≠ [] → (∀ l, l ∈ L → LineOk l) → splitS CRLF (icl L) = L := by
  intro L
  induction L with
  | nil => intro h; exact absurd rfl h
  | cons l r ih =>
    intro _ hL
    have h2 := (hL l (by simp)).2
    cases r with
    | nil => exact split_one rfl (ln_no h2).1
    | cons l2 r =>
      rw [icl_cons, split_more (sep := CRLF) rfl (ln_no h2).1, ih (by simp) (fun l' hl' => hL l' (List.mem_cons_of_mem _ hl'))]
def firstS (m t : Bs) : Bs := m ++ [32] ++ t ++ [32] ++ wHttp
theorem all_mono {p q : UInt8 → Bool} (h : ∀ c, p c = true → q c = true) {l : Bs} (hl : l.all p = true) : l.all q = true :=
  List.all_eq_true.2 fun c hc => h c (List.all_eq_true.1 hl c hc)
theorem all_app {p : UInt8 → Bool} {a b : Bs} (ha : a.all p = true) (hb : b.all p = true) : (a ++ b).all p = true := by rw [List.all_append, ha, hb]; rfl
theorem not_of {p : UInt8 → Bool} {l : Bs} (h : l.all p = true) {c : UInt8} (hc : p c = false) : ∀ j : Nat, l[j]? ≠ some c := fun j hj => by rw [all_at h hj] at hc; cases hc
theorem ofB_all {l h : Nat} {p : UInt8 → Bool} {s : Bs} (hb : ofB l h p s = true) : s.all p = true ∧ l ≤ s.length ∧ s.length ≤ h := by
  unfold ofB at hb
  simp only [Bool.and_eq_true, decide_eq_true_eq] at hb
  exact ⟨hb.1.1, hb.1.2, hb.2⟩
theorem up_ln {c : UInt8} (h : upC c = true) : lnC c = true := by
  unfold upC at h; have := of_decide_eq_true h
  exact decide_eq_true ⟨fun e => by subst e; exact absurd this (by decide), fun e => by subst e; exact absurd this (by decide)⟩
theorem ta_ln {c : UInt8} (h : taC c = true) : lnC c = true := by
  unfold taC at h; have := of_decide_eq_true h
  exact decide_eq_true ⟨fun e => by subst e; exact absurd this (by decide), fun e => by subst e; exact absurd this (by decide)⟩
theorem pl_ln {c : UInt8} (h : plC c = true) : lnC c = true := by
  unfold plC at h; have := of_decide_eq_true h
  exact decide_eq_true ⟨fun e => by subst e; exact absurd this (by decide), fun e => by subst e; exact absurd this (by decide)⟩
theorem nm_ln {c : UInt8} (h : nmC c = true) : lnC c = true :=
  decide_eq_true ⟨fun e => by subst e; exact absurd h (by decide), fun e => by subst e; exact absurd h (by decide)⟩
theorem sm_nm {c : UInt8} (h : smC c = true) : nmC c = true := by unfold nmC; rw [h]; rfl
theorem nm_58 {n : Bs} (h : n.all nmC = true) : ∀ j : Nat, n[j]? ≠ some 58 := not_of h (by decide)
theorem read_lines {m t : Bs} {L : List Bs} (hm : m.all upC = true) (ht : t.all taC = true) (hL : ∀ l, l ∈ L → LineOk l) (hn : L.length ≤ 32) : readH (icl (firstS m t :: L)) = readLines m t L := by
  have h1 : ∀ j : Nat, m[j]? ≠ some 32 := not_of hm (by decide)
  have h2 : ∀ j : Nat, t[j]? ≠ some 32 := not_of ht (by decide)
  have hf : LineOk (firstS m t) := ⟨by simp [firstS, wHttp], all_app (all_app (all_app (all_app (all_mono (fun _ => up_ln) hm) (by decide)) (all_mono (fun _ => ta_ln) ht)) (by decide)) (by decide)⟩
  have hs : splitS CRLF (icl (firstS m t :: L)) = firstS m t :: L := split_lines _ (by simp) (fun l hl => by
    rcases List.mem_cons.1 hl with rfl | hl
    · exact hf
    · exact hL l hl)
  have h3 : splitS [32] (firstS m t) = [m, t, wHttp] := by
    unfold firstS
    rw [List.append_assoc (m ++ [32] ++ t), List.append_assoc (m ++ [32])]
    rw [split_more rfl h1, ← List.append_assoc, split_more rfl h2, split_one rfl (not_of (p := taC) (l := wHttp) (by decide) (by decide))]
  unfold readH
  rw [hs, if_neg (by simp; omega)]
  simp only [h3, if_true]
theorem line_first {m t : Bs} (hm : m.all upC = true) (ht : t.all taC = true) : LineOk (firstS m t) :=
  ⟨by simp [firstS, wHttp], all_app (all_app (all_app (all_app (all_mono (fun _ => up_ln) hm) (by decide)) (all_mono (fun _ => ta_ln) ht)) (by decide)) (by decide)⟩
/-- Bytes that are lines, an empty one, and what stands behind. -/
theorem parse_lines {m t : Bs} {L : List Bs} (hm : m.all upC = true) (ht : t.all taC = true) (hL : ∀ l, l ∈ L → LineOk l) (hn : L.length ≤ 32) (x : Bs) :
    parseQ (joinL (firstS m t :: L) ++ CRLF ++ x) = if 8192 < (joinL (firstS m t :: L)).length + 2 then .error 152 else
      withBody (joinL (firstS m t :: L) ++ CRLF ++ x).length ((joinL (firstS m t :: L)).length + 2) x (readLines m t L) := by
  have hl : (joinL (firstS m t :: L)).length = (icl (firstS m t :: L)).length + 2 := by rw [icl_join _ (by simp)]; simp [CRLF]
  have hc := cut_lines (L := firstS m t :: L) (by simp) (fun l hl => by
    rcases List.mem_cons.1 hl with rfl | hl
    · exact line_first hm ht
    · exact hL l hl) x
  unfold parseQ
  rw [hc, hl]
  simp only [read_lines hm ht hL hn]
theorem trim_nil : trimS [] = [] := rfl
theorem trim_sp (v : Bs) : trimS (32 :: v) = trimS v := by
  unfold trimS Lib.trimB Lib.trimLeftB Lib.trimRightB
  rw [List.reverse_cons]
  have key : ∀ r : Bs, ((r ++ [32]).dropWhile (· == 32)).reverse.dropWhile (· == 32) = (r.dropWhile (· == 32)).reverse.dropWhile (· == 32) := by
    intro r
    induction r with
    | nil => rfl
    | cons a r ih =>
      rw [List.cons_append, List.dropWhile_cons, List.dropWhile_cons]
      split
      · exact ih
      · rw [List.reverse_cons, List.reverse_append]
        have e : ([32].reverse ++ r.reverse ++ [a] : Bs) = 32 :: (r.reverse ++ [a]) := rfl
        rw [e, List.dropWhile_cons, if_pos (by decide), ← List.reverse_cons]
  exact key v.reverse
theorem trim_end (v : Bs) : trimS (v ++ [32]) = trimS v := by
  unfold trimS Lib.trimB Lib.trimLeftB Lib.trimRightB
  rw [List.reverse_append]
  simp
theorem trim_pad (a b : Nat) (v : Bs) : trimS (List.replicate a 32 ++ v ++ List.replicate b 32) = trimS v := by
  induction b with
  | zero =>
    rw [List.replicate_zero, List.append_nil]
    induction a with
    | zero => rfl
    | succ a ih => rw [List.replicate_succ, List.cons_append, trim_sp]; exact ih
  | succ b ih => rw [List.replicate_succ', ← List.append_assoc, trim_end]; exact ih
theorem low_sm {n : Bs} (h : n.all smC = true) : lowS n = n := by
  unfold lowS
  have : ∀ c, c ∈ n → lowC c = c := by
    intro c hc
    have hs := List.all_eq_true.1 h c hc
    unfold lowC
    split
    · next hu =>
      exfalso
      unfold smC dgC at hs
      unfold upC at hu
      simp only [Bool.or_eq_true, decide_eq_true_eq] at hs hu
      omega
    · rfl
  rw [List.map_congr_left this, List.map_id'']
  exact fun _ => rfl
/-- A field's line is read as the field. -/
theorem line_field {n v w : Bs} {a b : Nat} (hn : ofB 1 64 nmC n = true) (hl : lowS n = w) : lineH (n ++ [58] ++ (List.replicate a 32 ++ v ++ List.replicate b 32)) = some (w, trimS v) := by
  unfold lineH
  rw [cutA_first rfl (nm_58 (ofB_all hn).1)]
  simp only
  rw [if_pos hn, hl, trim_pad]
end Go.Proofs.YtipjkjcmceeaeaaGreatDoor
