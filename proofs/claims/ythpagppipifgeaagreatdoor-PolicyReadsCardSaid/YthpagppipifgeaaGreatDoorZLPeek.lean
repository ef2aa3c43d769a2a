/- reader.peek, skip, word, wanted: the walks. -/
import Derived.Test.YthpagppipifgeaaGreatDoorZLRead0
import Derived.Test.YthpagppipifgeaaGreatDoorZLName
namespace Go.Proofs.YthpagppipifgeaaGreatDoor
open Go.RowKit

/-- A byte of a word; where blanks end. -/
def wdC (c : UInt8) : Bool := nmC c || c.toNat == 46
def trL (l : List UInt8) : List UInt8 := Lib.trimLeftB l 32
theorem trL_le (l : List UInt8) : (trL l).length ≤ l.length := by
  unfold trL Lib.trimLeftB
  exact (List.dropWhile_suffix _).length_le
/-- The next token of a text that begins with no blank, and its kind. -/
def peekS (u : List UInt8) : List UInt8 × Nat :=
  match u with
  | [] => ([], 0)
  | c :: _ => if c = 40 ∨ c = 41 ∨ c = 34 then ([c], c.toNat) else if u.takeWhile wdC = [] then ([], 63) else (u.takeWhile wdC, 119)
def nmD : ByteArray := ⟨#[97, 98, 99, 100, 101, 102, 103, 104, 105, 106, 107, 108, 109, 110, 111, 112, 113, 114, 115, 116, 117, 118, 119, 120, 121, 122, 48, 49, 50, 51, 52, 53, 54, 55, 56, 57, 95, 45, 46]⟩
theorem nmD_has (c : UInt8) : decide (0 ≤ Lib.indexByte nmD.data.toList c) = wdC c := by
  have h : ∀ n : Fin 256, decide (0 ≤ Lib.indexByte nmD.data.toList (UInt8.ofNat n.val)) = wdC (UInt8.ofNat n.val) := by decide +kernel
  have := h ⟨c.toNat, c.toNat_lt⟩
  simpa using this

theorem takeW_len {α : Type} (p : α → Bool) (l : List α) (k : Nat) (hk : k ≤ l.length) (h1 : ∀ j x, j < k → l[j]? = some x → p x = true) (h2 : ∀ x, l[k]? = some x → p x = false) : l.takeWhile p = l.take k := by
  induction l generalizing k with
  | nil => simp
  | cons a r ih =>
    cases k with
    | zero => have := h2 a rfl; simp [this]
    | succ k =>
      have ha := h1 0 a (by omega) rfl
      rw [List.takeWhile_cons, ha]
      simp only [if_true, List.take_succ_cons]
      congr 1
      exact ih k (by simpa using hk) (fun j x hj hx => h1 (j + 1) x (by omega) (by simpa using hx)) (fun x hx => h2 x (by simpa using hx))

def PeekPost (rb : Nat) (s : List UInt8) (w : World) : Ending → World → Prop := fun e w' => e = .returned (.tuple #[.string (bs (peekS (trL s)).1), .int .u8 ((peekS (trL s)).2 : Nat)]) ∧ Mv rb (trL s) w w'

set_option maxRecDepth 100000 in
set_option maxHeartbeats 2000000 in
theorem peek_any (rb : Nat) (s : List UInt8) (w : World) (ha : At rb s w) (hbig : s.length ≤ 9223372036854775807) :
    Calls Tryz.prog 59 #[.pointer (some ⟨rb, 0, none⟩)] w (PeekPost rb s w) := by
  have HT : Hid (∀ w, Calls Tryz.prog 79 #[.string (bs s), .string ⟨#[32]⟩] w fun e w' => e = .returned (.string (bs (trL s))) ∧ w' = w) := Lib.hid fun w => by
    have := Tryz.strings_TrimLeft_one (bs s) 32 (by decide) w
    rw [bs_data] at this
    exact this
  have hm := Mv.store ha (trL s)
  have c0 := ha.cell; have f0 := ha.fz
  obtain ⟨w1, hw1⟩ : ∃ w1, w1 = w.setCell ⟨rb, 0, none⟩ (.string (bs (trL s))) := ⟨_, rfl⟩
  rw [← hw1] at hm
  have c1 := hm.at_.cell
  unfold PeekPost
  have hbig : (trL s).length ≤ 9223372036854775807 := Nat.le_trans (trL_le s) hbig
  generalize trL s = u at *
  have HM := Lib.hid hm; have HA := Lib.hid ha
  clear hm ha
  go_enter Tryz.func59, Tryz.ntmps59
  go_upto_region 2 with (go_at_call 79; refine (HT.out _).mono ?_; rintro e wx ⟨rfl, rfl⟩)
  rw [← hw1]
  have hsz := bs_size u
  have hul := bs_list u
  clear c0 f0 hw1
  by_cases hne : u = []
  · subst hne
    go_wp2_with fail
    go_ret2
    exact ⟨rfl, HM.out⟩
  · obtain ⟨c, r, hu⟩ := List.exists_cons_of_ne_nil hne
    have hie : u.isEmpty = false := by rw [hu]; rfl
    have hlen : u.length = r.length + 1 := by rw [hu]; rfl
    have hg := bs_get u 0 c (by rw [hu]; rfl)
    have hu8 : (c.toNat : Int) = 40 ↔ c.toNat = 40 := by omega
    have HU := Lib.hid hu
    clear hu
    have hps : peekS u = if c = 40 ∨ c = 41 ∨ c = 34 then ([c], c.toNat) else if u.takeWhile wdC = [] then ([], 63) else (u.takeWhile wdC, 119) := by rw [HU.out]; rfl
    have HPS := Lib.hid hps
    clear hps hu8
    by_cases h1 : c = 40
    · subst h1
      go_wp2_with fail
      go_ret2
      exact ⟨by rw [HPS.out, bs_cut, HU.out]; rfl, HM.out⟩
    by_cases h2 : c = 41
    · subst h2
      go_wp2_with fail
      go_ret2
      exact ⟨by rw [HPS.out, bs_cut, HU.out]; rfl, HM.out⟩
    by_cases h3 : c = 34
    · subst h3
      go_wp2_with fail
      go_ret2
      exact ⟨by rw [HPS.out, bs_cut, HU.out]; rfl, HM.out⟩
    have n1 : ((c.toNat : Int) == 40) = false := by
      have : c.toNat ≠ 40 := fun e => h1 (UInt8.toNat_inj.1 e)
      simp; omega
    have n2 : ((c.toNat : Int) == 41) = false := by
      have : c.toNat ≠ 41 := fun e => h2 (UInt8.toNat_inj.1 e)
      simp; omega
    have n3 : ((c.toNat : Int) == 34) = false := by
      have : c.toNat ≠ 34 := fun e => h3 (UInt8.toNat_inj.1 e)
      simp; omega
    go_upto_region 11 with fail
    have hps2 : peekS u = if u.takeWhile wdC = [] then ([], 63) else (u.takeWhile wdC, 119) := by rw [HPS.out, if_neg]; simp [h1, h2, h3]
    have HPS := Lib.hid hps2
    have HI : Hid (∀ (x : UInt8) w, Calls Tryz.prog 80 #[.string nmD, .int .u8 (x.toNat : Nat)] w fun e w' => (∃ i : Int, e = .returned (.int .i64 i) ∧ (0 ≤ i ↔ wdC x = true)) ∧ w' = w) := Lib.hid fun x w => by
      refine (Tryz.strings_IndexByte nmD (x.toNat : Nat) w).mono ?_
      rintro e w' ⟨rfl, rfl⟩
      refine ⟨⟨_, rfl, ?_⟩, rfl⟩
      rw [← nmD_has x]
      simp
    have hnm : (⟨#[97, 98, 99, 100, 101, 102, 103, 104, 105, 106, 107, 108, 109, 110, 111, 112, 113, 114, 115, 116, 117, 118, 119, 120, 121, 122, 48, 49, 50, 51, 52, 53, 54, 55, 56, 57, 95, 45, 46]⟩ : ByteArray) = nmD := rfl
    have hlu : u.length ≤ 9223372036854775807 := hbig
    clear hps2 hg n1 n2 n3 h1 h2 h3 HT
    go_loopg [5] u.length (fun gg s5 wx => ∃ k : Nat, s5 = .int .i64 k ∧ k ≤ u.length ∧ gg = u.length - k ∧ Aside (wx = w1) ∧ Aside (∀ j x, j < k → u[j]? = some x → wdC x = true))
    case atStart => exact ⟨0, rfl, by omega, by omega, rfl, fun j x hj _ => absurd hj (Nat.not_lt_zero _)⟩
    case round =>
      obtain ⟨k, rfl, hk, rfl, hwx, hA⟩ := hrel
      have hwx := hwx.out
      subst hwx
      by_cases hlt : k < u.length
      · have hltz : (k : Int) < (u.length : Int) := by omega
        obtain ⟨x, hx⟩ : ∃ x, u[k]? = some x := ⟨u[k], by simp [hlt]⟩
        have hgk := bs_get u k x hx
        have hHX : Hid (u[k]? = some x) := hx
        clear hx
        cases hq : wdC x with
        | true =>
          go_wp2_with (go_at_call 80; refine (HI.out x _).mono ?_; rintro e w2 ⟨⟨i, rfl, hi⟩, rfl⟩; have hi := hi.2 hq)
          go_roundg (u.length - (k + 1))
          case measure => omega
          case rel =>
            have hA2 : ∀ j y, j < k + 1 → u[j]? = some y → wdC y = true := fun j y hj hy => by
              by_cases e : j = k
              · subst e; rw [hHX.out] at hy; cases hy; exact hq
              · exact hA.out j y (by omega) hy
            exact ⟨k + 1, by go_num, by omega, rfl, rfl, hA2⟩
        | false =>
          have htw : u.takeWhile wdC = u.take k := takeW_len wdC u k hk hA.out (fun y hy => by rw [hHX.out] at hy; cases hy; exact hq)
          have HTW := Lib.hid htw
          clear htw
          by_cases hk0 : k = 0
          · subst hk0
            go_wp2_with (go_at_call 80; refine (HI.out x _).mono ?_; rintro e w2 ⟨⟨i, rfl, hi⟩, rfl⟩; have hi : ¬ 0 ≤ i := fun h => by have := hi.1 h; rw [hq] at this; cases this)
            go_ret2
            exact ⟨by rw [HPS.out, HTW.out]; rfl, HM.out⟩
          · have hkz : ((k : Int) == 0) = false := by rw [beq0]; simp [hk0]
            go_wp2_with (go_at_call 80; refine (HI.out x _).mono ?_; rintro e w2 ⟨⟨i, rfl, hi⟩, rfl⟩; have hi : ¬ 0 ≤ i := fun h => by have := hi.1 h; rw [hq] at this; cases this)
            go_ret2
            have hne2 : ¬ u.take k = [] := by intro h; have h' := congrArg List.length h; rw [List.length_take] at h'; simp only [List.length_nil] at h'; omega
            exact ⟨by rw [HPS.out, HTW.out, if_neg hne2, bs_cut]; simp, HM.out⟩
      · have hltz : ¬ (k : Int) < (u.length : Int) := by omega
        have hke : k = u.length := by omega
        have htw : u.takeWhile wdC = u.take k := takeW_len wdC u k hk hA.out (fun y hy => by rw [hke] at hy; simp at hy)
        have HTW := Lib.hid htw
        have hkz : ((k : Int) == 0) = false := by rw [beq0]; simp; omega
        have hKE := Lib.hid hke
        clear htw hke
        go_wp2_with fail
        go_ret2
        have hne2 : ¬ u.take k = [] := by intro h; have h' := congrArg List.length h; rw [List.length_take] at h'; simp only [List.length_nil] at h'; omega
        exact ⟨by rw [HPS.out, HTW.out, if_neg hne2, bs_cut]; simp, HM.out⟩
end Go.Proofs.YthpagppipifgeaaGreatDoor
