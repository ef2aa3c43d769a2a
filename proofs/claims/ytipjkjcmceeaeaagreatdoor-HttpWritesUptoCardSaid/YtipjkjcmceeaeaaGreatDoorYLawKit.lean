/- What the laws of requests want: what is read is small; a slice that stays; texts compared one by one. -/
import Derived.Test.YtipjkjcmceeaeaaGreatDoorYFixed
import Derived.Test.YtipjkjcmceeaeaaGreatDoorYSame
namespace Go.Proofs.YtipjkjcmceeaeaaGreatDoor
open Go.RowKit

theorem lineH_le {l : Bs} {h : Hd} (e : lineH l = some h) : h.1.length ≤ l.length ∧ h.2.length ≤ l.length := by
  unfold lineH at e
  cases hc : cutA [58] l with
  | none => rw [hc] at e; cases e
  | some p =>
    obtain ⟨n, v⟩ := p
    rw [hc] at e
    simp only at e
    split at e
    · cases e
      exact ⟨by unfold lowS; rw [List.length_map]; exact (cutA_le hc).1, Nat.le_trans (trim_le v) (cutA_le hc).2⟩
    · cases e
theorem readL_vals {N : Nat} : ∀ (L : List Bs) (hs : List Hd) (b : Option Nat) (k : Nat) (r : List Hd × Option Nat × Nat), readL L hs b k = some r → (∀ x, x ∈ L → x.length ≤ N) → (∀ x, x ∈ hs → x.1.length ≤ N ∧ x.2.length ≤ N) → ∀ x, x ∈ r.1 → x.1.length ≤ N ∧ x.2.length ≤ N
  | [], hs, b, k, r, h, _, hh => by cases h; exact hh
  | l :: L, hs, b, k, r, h, hL, hh => by
    have hl := hL l (List.mem_cons_self ..)
    have hL' : ∀ x, x ∈ L → x.length ≤ N := fun x hx => hL x (List.mem_cons_of_mem _ hx)
    cases hx : lineH l with
    | none => rw [readL_bad hx] at h; cases h
    | some x =>
      have hxl := lineH_le hx
      by_cases h2 : x.1 = wCl ∨ x.1 = wTe
      · cases h3 : lenF x with
        | none => rw [readL_len0 hx h2 h3] at h; cases h
        | some b' =>
          rw [readL_len hx h2 h3] at h
          exact readL_vals L hs b' (k + 1) r h hL' hh
      · rw [readL_head hx h2] at h
        refine readL_vals L (hs ++ [x]) b k r h hL' fun y hy => ?_
        rcases List.mem_append.1 hy with hy | hy
        · exact hh y hy
        · obtain rfl := List.mem_singleton.1 hy
          omega
theorem readH_vals {s : Bs} {q : Rq} {k : Option Nat} (h : readH s = .ok (q, k)) : ∀ x, x ∈ q.hs → x.1.length ≤ s.length ∧ x.2.length ≤ s.length := by
  have hle := (split_le (sep := CRLF) (s := s) (by decide)).1
  unfold readH at h
  split at h
  · cases h
  · split at h
    · cases h
    · next l0 r hr =>
      rw [hr] at hle
      split at h
      · next m t v hv =>
        split at h
        · unfold readLines at h
          cases hL : readL r [] (some 0) 0 with
          | none => rw [hL] at h; cases h
          | some z =>
            obtain ⟨hs, b, kk⟩ := z
            rw [hL] at h
            simp only at h
            split at h
            · cases h
            · cases h
              exact readL_vals r [] (some 0) 0 _ hL (fun x hx => hle x (List.mem_cons_of_mem _ hx)) (fun x hx => nomatch hx)
        · cases h
      · cases h
theorem withBody_hs {a hd : Nat} {r : Bs} {q0 q : Rq} {bl : Option Nat} {n : Nat} (h : withBody a hd r (.ok (q0, bl)) = .ok (q, n)) : q.hs = q0.hs := by
  unfold withBody at h
  cases bl with
  | none =>
    simp only at h
    split at h
    · cases h
    · cases h
    · cases h; rfl
  | some k =>
    simp only at h
    split at h
    · cases h
    · split at h
      · cases h
      · cases h; rfl
theorem parse_vals {s : Bs} {q : Rq} {n : Nat} (h : parseQ s = .ok (q, n)) : ∀ x, x ∈ q.hs → x.1.length ≤ 8192 ∧ x.2.length ≤ 8192 := by
  unfold parseQ at h
  split at h
  · split at h <;> cases h
  · next t r hc =>
    split at h
    · cases h
    · next h8 =>
      cases hr : readH t with
      | error e => rw [hr] at h; unfold withBody at h; cases h
      | ok p =>
        obtain ⟨q0, bl⟩ := p
        rw [hr] at h
        rw [withBody_hs h]
        intro x hx
        have := readH_vals hr x hx
        omega
theorem small_zero : SmallQ zRq := ⟨Nat.zero_le _, Nat.zero_le _, Nat.zero_le _, Nat.zero_le _, (fun _ hx => nomatch hx), Nat.zero_le _⟩
theorem parse_small {s : Bs} {q : Rq} {n : Nat} (h : parseQ s = .ok (q, n)) : SmallQ q := by
  obtain ⟨hf, h31, hb, _⟩ := parse_may h
  obtain ⟨hm, ht, _, _, _⟩ := form_parts hf
  have h1 := ofB_all hm
  have h2 := ofB_all ht
  have hv := parse_vals h
  have hl := lines_bound q.hs hv
  exact ⟨by omega, by omega, by omega, by omega, fun x hx => by have := hv x hx; omega, by omega⟩
theorem parseV_small (s : Bs) : SmallQ (parseV s).1 := by
  unfold parseV
  cases h : parseQ s with
  | error e => exact small_zero
  | ok p => obtain ⟨q, n⟩ := p; exact parse_small h
theorem parseV_lab (s : Bs) : LabOk (parseV s).1 := by
  unfold parseV
  cases h : parseQ s with
  | error e => exact fun v l hg => by cases hg
  | ok p => obtain ⟨q, n⟩ := p; exact lab_form (parse_may h).1
theorem SlC.keep {w w' : World} {n : Nat} {xs : List Value} {ad : Option Addr} {c : Nat} (h : SlC w n xs ad c) (hk : ∀ k, k < w.heap.size → w'.heap[k]? = w.heap[k]?) : SlC w' n xs ad c := by
  obtain ⟨h1, h2, b, f, h3, h4⟩ := h
  refine ⟨h1, h2, b, f, h3, fun j u hj => ?_⟩
  have h5 := h4 j u hj
  have hb := World.block_lt_of_cell? w ⟨b, f + j, none⟩ h5
  simp only [World.cell?, hk b hb] at h5 ⊢
  exact h5
def GetAt (l : List Bs) : Prd := fun w v => ∃ ad c, v = .slice ad l.length c ∧ SlS w l ad c
theorem stb_get (l : List Bs) : Stb (GetAt l) := fun _ _ _ hb ⟨ad, c, h1, h2⟩ => ⟨ad, c, h1, h2.grown hb⟩
theorem rw_get {l : List Bs} {w w' : World} {e : Ending} (h : RetSl l w e w') : RW (GetAt l) w e w' := by
  obtain ⟨ad, c, h1, h2, h3⟩ := h
  exact ⟨_, h1, ⟨ad, c, rfl, h2⟩, h3⟩
set_option maxRecDepth 100000 in
set_option maxHeartbeats 4000000 in
theorem sameT_any (l : List Bs) (ad1 ad2 : Option Addr) (c1 c2 : Nat) (w : World) (h1 : SlS w l ad1 c1) (h2 : SlS w l ad2 c2) : Calls Tryz.prog 15 #[.slice ad1 l.length c1, .slice ad2 l.length c2] w (RetB true w) := by
  have hMX := MX_eq
  obtain ⟨hle1, hcm1, hr1⟩ := h1
  obtain ⟨hle2, hcm2, hr2⟩ := h2
  have HR1 := Lib.hid hr1
  have HR2 := Lib.hid hr2
  clear hr1 hr2
  go_enter Tryz.func15, Tryz.ntmps15
  go_upto_region 4 with fail
  go_loopg [5] l.length (fun gg s5 wr => ∃ (i : Nat), i ≤ l.length ∧ gg = l.length - i ∧ s5 = .int .i64 (i : Nat) ∧ Aside (Below w.heap.size w wr))
  case atStart => exact ⟨0, Nat.zero_le _, rfl, rfl, Below.refl _ _⟩
  case round =>
    obtain ⟨i, hil, rfl, rfl, HB⟩ := hrel
    by_cases hlt : i < l.length
    · have hltz : (i : Int) < (l.length : Int) := by omega
      obtain ⟨x, hx⟩ : ∃ x, l[i]? = some x := ⟨l[i], List.getElem?_eq_getElem hlt⟩
      have hne : l ≠ [] := by intro e; rw [e] at hlt; exact absurd hlt (Nat.not_lt_zero _)
      obtain ⟨b1, rfl, hw1⟩ := HR1.out.resolve_left hne
      obtain ⟨b2, rfl, hw2⟩ := HR2.out.resolve_left hne
      have e1 := hw1 i (.string (bs x)) (by unfold StC; rw [List.getElem?_map, hx]; rfl)
      have e2 := hw2 i (.string (bs x)) (by unfold StC; rw [List.getElem?_map, hx]; rfl)
      rw [Nat.zero_add] at e1 e2
      have c1 := (HB.out.cell (p := ⟨b1, i, none⟩) (World.block_lt_of_cell? w _ e1)).trans e1
      have c2 := (HB.out.cell (p := ⟨b2, i, none⟩) (World.block_lt_of_cell? w _ e2)).trans e2
      have q1 : ((bs x).toList == (bs x).toList) = true := by simp
      clear e1 e2 hw1 hw2 hx hne
      go_upto_region 6 with fail
      go_quiet (fail)
      have hB2 := HB.out.trans (below_drawn (Below.refl _ _) nq)
      go_wp2_with fail
      go_roundg (l.length - (i + 1))
      case measure => omega
      case rel => exact ⟨i + 1, by omega, rfl, by go_num, hB2⟩
    · have hltz : ¬ (i : Int) < (l.length : Int) := by omega
      go_wp2_with fail
      go_ret
      exact ⟨rfl, HB.out⟩
end Go.Proofs.YtipjkjcmceeaeaaGreatDoor
