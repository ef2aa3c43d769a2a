/- Plain: a body in chunks, names in great letters, values between blanks. -/
import Derived.Test.YtipjkjcmceeaeaaGreatDoorYBack2
namespace Go.Proofs.YtipjkjcmceeaeaaGreatDoor
open Go

/-- A digit of base sixteen. -/
def hxC (k : Nat) : UInt8 := if k < 10 then UInt8.ofNat (48 + k) else UInt8.ofNat (55 + k)
theorem hxC_fin : ∀ k : Fin 16, heC (hxC k.val) = true ∧ hexV (hxC k.val) = k.val := by decide +kernel
def hexS (n : Nat) : Bs := if _h : n = 0 then [] else hexS (n / 16) ++ [hxC (n % 16)]
termination_by n
decreasing_by omega
theorem hexS_zero : hexS 0 = [] := by unfold hexS; rfl
theorem hexS_pos {n : Nat} (h : n ≠ 0) : hexS n = hexS (n / 16) ++ [hxC (n % 16)] := by rw [hexS, dif_neg h]
theorem hexN_snocM : ∀ (x : Bs) (a : Nat) (c : UInt8), hexN a (x ++ [c]) = 16 * hexN a x + hexV c := by
  intro x
  induction x with
  | nil => intro a c; rfl
  | cons d r ih => intro a c; exact ih _ _
theorem hexS_spec (n : Nat) : hexN 0 (hexS n) = n ∧ (hexS n).all heC = true := by
  induction n using Nat.strongRecOn with
  | _ n ih =>
    by_cases h : n = 0
    · subst h; rw [hexS_zero]; exact ⟨rfl, rfl⟩
    · obtain ⟨h1, h2⟩ := ih (n / 16) (by omega)
      obtain ⟨k1, k2⟩ := hxC_fin ⟨n % 16, by omega⟩
      simp only at k1 k2
      rw [hexS_pos h]
      refine ⟨?_, all_app h2 (by rw [List.all_cons, k1]; rfl)⟩
      rw [hexN_snocM, h1, k2]; omega
theorem hexS_len : ∀ (k n : Nat), n < 16 ^ k → (hexS n).length ≤ k := by
  intro k
  induction k with
  | zero => intro n h; have : n = 0 := by simp at h; exact h
            subst this; rw [hexS_zero]; exact Nat.le_refl _
  | succ k ih =>
    intro n h
    by_cases h0 : n = 0
    · subst h0; rw [hexS_zero]; exact Nat.zero_le _
    · rw [hexS_pos h0, List.length_append]
      have := ih (n / 16) (by rw [Nat.pow_succ] at h; omega)
      simp only [List.length_cons, List.length_nil]; omega
theorem hexS_ne {n : Nat} (h : n ≠ 0) : hexS n ≠ [] := by rw [hexS_pos h]; simp
theorem lineC_of {d y : Bs} (h1 : d.all heC = true) (h2 : d.length ≤ 4) (h3 : d ≠ []) : lineC (d ++ CRLF ++ y) = .num (hexN 0 d) d.length y := by
  have hd : hexD (d ++ CRLF ++ y) = d := by
    rw [List.append_assoc]
    exact hexD_is h1 h2 (Or.inr fun c hc => by cases hc; decide)
  have hx : (d ++ CRLF ++ y).drop d.length = CRLF ++ y := by rw [List.append_assoc, List.drop_left]
  have hb : ¬ begCR (CRLF ++ y) = false := by simp [begCR, CRLF]
  unfold lineC
  rw [hd, hx, if_neg (by rintro (⟨h, _⟩ | h); exact h3 h; exact hb h), if_neg (by simp [CRLF]), ← List.drop_drop, hx]
  rfl
/-- A chunk; chunks. -/
def chunkT (p : Bs) : Bs := hexS p.length ++ CRLF ++ p ++ CRLF
def chunksT (ps : List Bs) : Bs := (ps.map chunkT).flatten
def lastT : Bs := [48, 13, 10, 13, 10]
theorem chunks_read : ∀ (ps : List Bs), (∀ p, p ∈ ps → p ≠ []) → ∀ (f : Nat) (body : Bs), ps.length < f → body.length + ps.flatten.length ≤ 8192 → chunkS f body (chunksT ps ++ lastT) = .done (body ++ ps.flatten) [] := by
  intro ps
  induction ps with
  | nil =>
    intro _ f body hf _
    obtain ⟨g, rfl⟩ : ∃ g, f = g + 1 := ⟨f - 1, by simp at hf; omega⟩
    have h1 : lineC (chunksT [] ++ lastT) = .num 0 1 [13, 10] := lineC_of (d := [48]) (y := [13, 10]) (by decide) (by decide) (by decide)
    unfold chunkS
    rw [h1]
    simp only [List.flatten_nil, List.append_nil]
    rw [if_neg (by simp at *; omega), if_neg (by decide), if_neg (by decide), if_pos trivial]
    rfl
  | cons p r ih =>
    intro hp f body hf hl
    obtain ⟨g, rfl⟩ : ∃ g, f = g + 1 := ⟨f - 1, by simp at hf; omega⟩
    have hne := hp p (by simp)
    have hpl : 0 < p.length := List.length_pos_iff.2 hne
    rw [List.flatten_cons, List.length_append] at hl
    obtain ⟨s1, s2⟩ := hexS_spec p.length
    have e : chunksT (p :: r) ++ lastT = hexS p.length ++ CRLF ++ (p ++ (CRLF ++ (chunksT r ++ lastT))) := by
      unfold chunksT chunkT
      simp [List.append_assoc]
    have h1 : lineC (chunksT (p :: r) ++ lastT) = .num p.length (hexS p.length).length (p ++ (CRLF ++ (chunksT r ++ lastT))) := by
      rw [e, lineC_of s2 (hexS_len 4 _ (by omega)) (hexS_ne (by omega)), s1]
    unfold chunkS
    rw [h1]
    simp only
    have hb : ¬ begCR (CRLF ++ (chunksT r ++ lastT)) = false := by simp [begCR, CRLF]
    have hd : (p ++ (CRLF ++ (chunksT r ++ lastT))).drop (p.length + 2) = chunksT r ++ lastT := by rw [← List.drop_drop, List.drop_left]; rfl
    rw [if_neg (by omega), List.drop_left, if_neg hb, if_neg (by simp [CRLF]), if_neg (by omega), List.take_left, hd]
    rw [ih (fun p' h' => hp p' (List.mem_cons_of_mem _ h')) g (body ++ p) (by simp at hf; omega) (by rw [List.length_append]; omega), List.flatten_cons, List.append_assoc]
/-- The line that tells of chunks, as the law lays it. -/
def lineT : Bs := [84, 114, 97, 110, 115, 102, 101, 114, 45, 69, 110, 99, 111, 100, 105, 110, 103, 58, 99, 104, 117, 110, 107, 101, 100]
theorem lineT_read : lineH lineT = some (wTe, wChunked) := by decide +kernel
theorem lineT_ok : LineOk lineT := ⟨by decide, by decide⟩
theorem lenF_te : lenF (wTe, wChunked) = some none := by decide +kernel
theorem head_cut {q : Rq} (hb : q.b = []) : (headS q).take ((headS q).length - 2) = joinL (firstS q.m q.t :: q.hs.map line0) := by
  rw [head_lines]
  unfold linesQ
  rw [if_pos hb, List.append_nil, List.length_append, show CRLF.length = 2 from rfl, Nat.add_sub_cancel, List.take_left]
/-- A body in chunks is read as the body. -/
theorem parse_chunks {q : Rq} (h : checkS q = 0) (hn : q.hs.length ≤ 30) (hs : (headS { q with b := [] }).length ≤ 8100) {ps : List Bs} (hp : ∀ p, p ∈ ps → p ≠ []) (hb : ps.flatten = q.b) :
    parseQ ((headS { q with b := [] }).take ((headS { q with b := [] }).length - 2) ++ (lineT ++ HEND) ++ chunksT ps ++ lastT) =
      .ok (q, ((headS { q with b := [] }).take ((headS { q with b := [] }).length - 2) ++ (lineT ++ HEND) ++ chunksT ps ++ lastT).length) := by
  obtain ⟨h1, h2, h3, _⟩ := check_parts h
  obtain ⟨k1, k2, _, k4, _⟩ := form_parts h2
  have hc := head_cut (q := { q with b := [] }) rfl
  have hj : joinL (firstS q.m q.t :: (q.hs.map line0 ++ [lineT])) = joinL (firstS q.m q.t :: q.hs.map line0) ++ (lineT ++ CRLF) := by
    rw [← List.cons_append, joinL_app]
    simp [joinL]
  have hlen : (joinL (firstS q.m q.t :: q.hs.map line0)).length ≤ 8100 := by
    rw [← hc, List.length_take]; omega
  have e : (headS { q with b := [] }).take ((headS { q with b := [] }).length - 2) ++ (lineT ++ HEND) ++ chunksT ps ++ lastT = joinL (firstS q.m q.t :: (q.hs.map line0 ++ [lineT])) ++ CRLF ++ (chunksT ps ++ lastT) := by
    rw [hc, hj]
    simp [HEND, CRLF, List.append_assoc]
  have hok : ∀ l, l ∈ q.hs.map line0 ++ [lineT] → LineOk l := by
    intro l hl
    rcases List.mem_append.1 hl with hl | hl
    · obtain ⟨x, hx, rfl⟩ := List.mem_map.1 hl
      exact line0_ok (k4 x hx)
    · rcases List.mem_cons.1 hl with rfl | hl
      · exact lineT_ok
      · cases hl
  have hr : readLines q.m q.t (q.hs.map line0 ++ [lineT]) = .ok (⟨q.m, q.t, q.hs, []⟩, none) := by
    unfold readLines
    rw [readL_fields q.hs (fun x hx => ⟨k4 x hx, line0_read (k4 x hx)⟩), List.nil_append]
    have hf2 : ¬ formB ⟨q.m, q.t, q.hs, []⟩ = false := by
      rw [show formB ⟨q.m, q.t, q.hs, []⟩ = formB q from rfl, h2]; decide
    simp only [readL, lineT_read, or_true, if_true, lenF_te]
    rw [if_neg (by rintro (h | h | h); omega; omega; exact hf2 h)]
  have hlt : lineT.length = 25 := rfl
  have hcl : CRLF.length = 2 := rfl
  rw [e, parse_lines (ofB_all k1).1 (ofB_all k2).1 hok (by rw [List.length_append, List.length_map]; simp; omega), if_neg (by rw [hj, List.length_append, List.length_append, hlt, hcl]; omega), hr]
  unfold withBody
  simp only
  have hps : ps.length ≤ (chunksT ps).length := by
    clear hp hb e
    unfold chunksT
    induction ps with
    | nil => exact Nat.le_refl _
    | cons p r ih =>
      rw [List.map_cons, List.flatten_cons, List.length_append, List.length_cons]
      have : 1 ≤ (chunkT p).length := by simp [chunkT, CRLF]; omega
      omega
  rw [chunks_read ps hp _ [] (by rw [List.length_append]; omega) (by rw [hb]; simpa using h3), hb]
  rfl
def upL (c : UInt8) : UInt8 := if 97 ≤ c.toNat ∧ c.toNat ≤ 122 then c - 32 else c
def upS (s : Bs) : Bs := s.map upL
theorem up_low : ∀ k : Fin 256, smC (UInt8.ofNat k.val) = true → lowC (upL (UInt8.ofNat k.val)) = UInt8.ofNat k.val ∧ nmC (upL (UInt8.ofNat k.val)) = true := by decide +kernel
theorem upS_low {n : Bs} (h : n.all smC = true) : lowS (upS n) = n ∧ (upS n).all nmC = true := by
  have key : ∀ c : UInt8, smC c = true → lowC (upL c) = c ∧ nmC (upL c) = true := every_byte up_low
  induction n with
  | nil => exact ⟨rfl, rfl⟩
  | cons a r ih =>
    rw [List.all_cons, Bool.and_eq_true] at h
    obtain ⟨h1, h2⟩ := ih h.2
    obtain ⟨h3, h4⟩ := key a h.1
    constructor
    · show lowC (upL a) :: lowS (upS r) = a :: r
      rw [h3, h1]
    · show (nmC (upL a) && (upS r).all nmC) = true
      rw [h4, h2]; rfl
/-- A field's line with a great name and so many blanks. -/
def lineU (k : Nat) (h : Hd) : Bs := upS h.1 ++ [58] ++ (List.replicate k 32 ++ h.2 ++ List.replicate k 32)
theorem lineU_read {h : Hd} (k : Nat) (hf : fieldB h = true) : lineH (lineU k h) = some h := by
  obtain ⟨_, _, h3, _, h5⟩ := field_names hf
  obtain ⟨s1, s2, s3⟩ := ofB_all h3
  obtain ⟨u1, u2⟩ := upS_low s1
  unfold lineU
  rw [line_field (w := h.1) ?_ u1, h5]
  unfold ofB
  rw [u2, decide_eq_true (show 1 ≤ (upS h.1).length by unfold upS; rw [List.length_map]; exact s2), decide_eq_true (show (upS h.1).length ≤ 64 by unfold upS; rw [List.length_map]; exact s3)]
  rfl
theorem rep_ln (k : Nat) : (List.replicate k (32 : UInt8)).all lnC = true := by
  rw [List.all_eq_true]; intro c hc; rw [List.eq_of_mem_replicate hc]; decide
theorem lineU_ok {h : Hd} (k : Nat) (hf : fieldB h = true) : LineOk (lineU k h) := by
  obtain ⟨_, _, h3, h4, _⟩ := field_names hf
  obtain ⟨_, u2⟩ := upS_low (ofB_all h3).1
  refine ⟨by simp [lineU], ?_⟩
  unfold lineU
  exact all_app (all_app (all_mono (fun _ => nm_ln) u2) (by decide)) (all_app (all_app (rep_ln k) (all_mono (fun _ => pl_ln) h4)) (rep_ln k))
/-- Names in great letters, and blanks around values, make no difference. -/
theorem parse_cases {q : Rq} (h : checkS q = 0) (k : Nat) :
    parseQ (joinL (firstS q.m q.t :: q.hs.map (lineU k)) ++ CRLF) = if 8192 < (joinL (firstS q.m q.t :: q.hs.map (lineU k)) ++ CRLF).length then .error 152 else .ok ({ q with b := [] }, (joinL (firstS q.m q.t :: q.hs.map (lineU k)) ++ CRLF).length) := by
  obtain ⟨h1, h2, _, _⟩ := check_parts h
  obtain ⟨k1, k2, _, k4, _⟩ := form_parts h2
  have hok : ∀ l, l ∈ q.hs.map (lineU k) → LineOk l := by
    intro l hl
    obtain ⟨x, hx, rfl⟩ := List.mem_map.1 hl
    exact lineU_ok k (k4 x hx)
  have hr : readLines q.m q.t (q.hs.map (lineU k)) = .ok (⟨q.m, q.t, q.hs, []⟩, some 0) := by
    have hrf := readL_fields q.hs (f := lineU k) (fun x hx => ⟨k4 x hx, lineU_read k (k4 x hx)⟩) [] [] (some 0) 0
    rw [List.append_nil, List.nil_append] at hrf
    unfold readLines
    rw [hrf]
    have hf2 : ¬ formB ⟨q.m, q.t, q.hs, []⟩ = false := by
      rw [show formB ⟨q.m, q.t, q.hs, []⟩ = formB q from rfl, h2]; decide
    simp only [readL]
    rw [if_neg (by rintro (h | h | h); omega; omega; exact hf2 h)]
  have hp := parse_lines (ofB_all k1).1 (ofB_all k2).1 hok (by rw [List.length_map]; omega) []
  rw [List.append_nil] at hp
  have hcl : CRLF.length = 2 := rfl
  rw [hp, hr, List.length_append, hcl]
  rfl
theorem headS_cases (q : Rq) (k : Nat) : q.m ++ [32] ++ q.t ++ [32] ++ wHttp ++ CRLF ++ (q.hs.map fun h => upS h.1 ++ [58] ++ List.replicate k 32 ++ h.2 ++ List.replicate k 32 ++ CRLF).flatten ++ CRLF = joinL (firstS q.m q.t :: q.hs.map (lineU k)) ++ CRLF := by
  rw [joinL_cons]
  unfold firstS joinL
  rw [List.map_map]
  congr 3
  refine List.map_congr_left fun h _ => ?_
  simp [lineU, List.append_assoc]
theorem parse_nil : parseQ [] = .error 150 := rfl
end Go.Proofs.YtipjkjcmceeaeaaGreatDoor
