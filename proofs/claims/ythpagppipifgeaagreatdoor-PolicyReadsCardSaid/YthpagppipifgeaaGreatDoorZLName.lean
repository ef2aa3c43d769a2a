/- policy.name, policy.literal: which texts are names, and which may be literals. -/
import Derived.Test.YthpagppipifgeaaGreatDoorZLA
import Derived.Test.YthpagppipifgeaaGreatDoorShelf
import Derived.Shelf.Strings.SlTrimAscii
import Derived.Lib.MapLaws
namespace Go.Proofs.YthpagppipifgeaaGreatDoor
open Go.RowKit

/-- The bytes of names. -/
def nmS : ByteArray := ⟨#[97, 98, 99, 100, 101, 102, 103, 104, 105, 106, 107, 108, 109, 110, 111, 112, 113, 114, 115, 116, 117, 118, 119, 120, 121, 122, 48, 49, 50, 51, 52, 53, 54, 55, 56, 57, 95, 45]⟩
theorem nmS_has (c : UInt8) : nmS.data.toList.contains c = nmC c := by
  have h : ∀ n : Fin 256, nmS.data.toList.contains (UInt8.ofNat n.val) = nmC (UInt8.ofNat n.val) := by decide +kernel
  have := h ⟨c.toNat, c.toNat_lt⟩
  simpa using this
theorem dropW_all {α : Type} (p : α → Bool) (l : List α) : (l.dropWhile p = []) ↔ l.all p = true := by
  induction l with
  | nil => simp
  | cons x r ih => cases h : p x <;> simp [h, ih]
theorem all_dropW {α : Type} (p : α → Bool) (l : List α) : (l.dropWhile p).all p = l.all p := by
  induction l with
  | nil => rfl
  | cons x r ih => cases h : p x <;> simp [h, ih]
theorem trim_nil (l cs : List UInt8) : (Lib.trimS l cs = []) ↔ l.all (cs.contains ·) = true := by
  unfold Lib.trimS Lib.trimLeftS Lib.trimRightS
  rw [dropW_all]
  rw [show ((List.dropWhile (fun x => cs.contains x) l.reverse).reverse.all fun x => cs.contains x) = (List.dropWhile (fun x => cs.contains x) l.reverse).all fun x => cs.contains x by rw [List.all_reverse]]
  rw [all_dropW, List.all_reverse]
theorem trim_nm (s : ByteArray) : decide (Lib.trimS s.data.toList nmS.data.toList = []) = s.data.toList.all nmC := by
  have h1 : s.data.toList.all (nmS.data.toList.contains ·) = s.data.toList.all nmC := by congr 1; funext c; exact nmS_has c
  have h2 := trim_nil s.data.toList nmS.data.toList
  rw [h1] at h2
  cases h : s.data.toList.all nmC
  · rw [h] at h2; simp at h2; simp [h2]
  · rw [h] at h2; simp at h2; simp [h2]

set_option maxRecDepth 100000 in
theorem name_any (s : ByteArray) (w : World) (hs : s.size ≤ SB) : Calls Tryz.prog 47 #[.string s] w (RetB (nameB s) w) := by
  have hSB := SB_eq
  have HT : Hid (∀ w, Calls Tryz.prog 72 #[.string s, .string nmS] w fun e w' => e = .returned (.string ⟨(Lib.trimS s.data.toList nmS.data.toList).toArray⟩) ∧ Below w.heap.size w w') := Lib.hid fun w =>
    Any.strings_Trim_laid Tryz.lays160 (by kernel_rfl) s nmS w (by omega) (by decide) (ascii_of_all (by decide))
  have hall := trim_nm s
  obtain ⟨T, hT⟩ : ∃ T, T = Lib.trimS s.data.toList nmS.data.toList := ⟨_, rfl⟩
  rw [← hT] at HT hall
  have HA := Lib.hid hall
  clear hall hT
  have hnm : (⟨#[97, 98, 99, 100, 101, 102, 103, 104, 105, 106, 107, 108, 109, 110, 111, 112, 113, 114, 115, 116, 117, 118, 119, 120, 121, 122, 48, 49, 50, 51, 52, 53, 54, 55, 56, 57, 95, 45]⟩ : ByteArray) = nmS := rfl
  go_enter Tryz.func47, Tryz.ntmps47
  go_wp2_with (go_at_call 72; refine (HT.out _).mono ?_; rintro e w1 ⟨rfl, hb⟩)
  all_goals (go_ret; refine ⟨?_, by first | exact hb | exact Below.refl _ _⟩; unfold nameB; rw [← HA.out]; have hz := sz0 s; clear HT HA; try clear hnm; simp_all [isE]; try omega)

theorem lit_idx (p : Nat → Bool) (hp : ∀ r, p r = (decide (r < 32) || decide (126 < r))) (s : ByteArray) : ∀ f pos, s.size ≤ pos + f → ((0 ≤ Lib.idxFuncFrom p true s f pos) ↔ ∃ j, pos ≤ j ∧ j < s.size ∧ ltC (s.get! j) = false) := by
  intro f
  induction f with
  | zero => intro pos h; simp only [Lib.idxFuncFrom]; constructor
            · intro h; omega
            · rintro ⟨j, h1, h2, _⟩; omega
  | succ f ih =>
    intro pos h
    simp only [Lib.idxFuncFrom]
    by_cases hps : pos < s.size
    · rw [if_pos hps]
      have hd := Lib.decode_at s pos
      have hb : (s.get! pos).toNat < 256 := (s.get! pos).toNat_lt
      obtain ⟨b0, hb0⟩ : ∃ b0, b0 = (s.get! pos).toNat := ⟨_, rfl⟩
      rw [← hb0] at hd hb
      have hlt : ltC (s.get! pos) = (decide (32 ≤ b0) && decide (b0 ≤ 126)) := by rw [hb0]; rfl
      by_cases h8 : b0 < 128
      · have hd1 : Utf8.decode s pos = (b0, 1) := by rw [hd]; unfold Lib.decodeN; rw [if_pos h8]
        rw [hd1]
        by_cases hpr : p b0 = true
        · rw [if_pos hpr]
          rw [hp] at hpr
          have hpr' : b0 < 32 ∨ 126 < b0 := by simpa using hpr
          exact ⟨fun _ => ⟨pos, Nat.le_refl _, hps, by rw [hlt]; simp; omega⟩, fun _ => by omega⟩
        · rw [if_neg hpr, ih (pos + 1) (by omega)]
          rw [hp] at hpr
          have hpr' : ¬ b0 < 32 ∧ ¬ 126 < b0 := by simpa using hpr
          constructor
          · rintro ⟨j, h1, h2, h3⟩; exact ⟨j, by omega, h2, h3⟩
          · rintro ⟨j, h1, h2, h3⟩
            refine ⟨j, ?_, h2, h3⟩
            by_cases e : j = pos
            · subst e; rw [hlt] at h3; simp at h3; omega
            · omega
      · have hbig : 126 < (Utf8.decode s pos).1 := by
          rw [hd]
          rcases Lib.decodeN_shape (s.size - pos) b0 (s.get! (pos + 1)).toNat (s.get! (pos + 2)).toNat (s.get! (pos + 3)).toNat with ⟨h, _⟩ | ⟨_, _, _, h, e⟩ | ⟨_, _, _, _, h, _, e⟩ | ⟨_, _, _, _, _, h, _, e⟩ | e
          · omega
          all_goals (rw [e]; simp only; omega)
        have hpr : p (Utf8.decode s pos).1 = true := by rw [hp]; simp [hbig]
        rw [if_pos hpr]
        exact ⟨fun _ => ⟨pos, Nat.le_refl _, hps, by rw [hlt]; simp; omega⟩, fun _ => by omega⟩
    · rw [if_neg hps]
      constructor
      · intro h; omega
      · rintro ⟨j, h1, h2, _⟩; omega
def oddR (r : Nat) : Bool := decide (r < 32) || decide (126 < r)
theorem lit_odd (s : ByteArray) : decide (0 ≤ Lib.idxFunc oddR true s) = !(s.data.toList.all ltC) := by
  have h := lit_idx oddR (fun _ => rfl) s s.size 0 (by omega)
  have h2 : (∃ j, 0 ≤ j ∧ j < s.size ∧ ltC (s.get! j) = false) ↔ s.data.toList.all ltC = false := by
    rw [List.all_eq_false]
    constructor
    · rintro ⟨j, _, h2, h3⟩
      have hj : j < s.data.toList.length := by simpa using h2
      exact ⟨s.data.toList[j], List.getElem_mem hj, by
        have e : s.get! j = s.data.toList[j] := by simp [ByteArray.get!, getElem!_pos, h2]
        rw [← e, h3]; decide⟩
    · rintro ⟨x, hx, h3⟩
      obtain ⟨j, hj, rfl⟩ := List.getElem_of_mem hx
      have h2 : j < s.size := by simpa using hj
      exact ⟨j, Nat.zero_le _, h2, by
        have e : s.get! j = s.data.toList[j] := by simp [ByteArray.get!, getElem!_pos, h2]
        rw [e]; simpa using h3⟩
  have h3 : (0 ≤ Lib.idxFunc oddR true s) ↔ s.data.toList.all ltC = false := h.trans h2
  cases hc : s.data.toList.all ltC
  · simp [h3.2 hc]
  · have : ¬ 0 ≤ Lib.idxFunc oddR true s := fun hh => by have := h3.1 hh; rw [hc] at this; cases this
    simp [this]
theorem odd_pays (w : World) : PredAtRunes Tryz.prog 73 #[] oddR w := fun W r _ _ => by
  unfold FnGives
  by_cases h1 : r < 32 <;> by_cases h2 : 126 < r
  all_goals
    have z1 : (r : Int) < 32 ↔ r < 32 := by omega
    have z2 : (126 : Int) < (r : Int) ↔ 126 < r := by omega
    go_enter Tryz.func73, Tryz.ntmps73
    go_wp2
    all_goals first | (exfalso; omega) | (go_ret; exact ⟨by simp [oddR, h1, h2], 0, rfl⟩)
set_option maxRecDepth 100000 in
theorem literal_any (s : ByteArray) (w : World) (hs : s.size ≤ SB) : Calls Tryz.prog 48 #[.string s] w (RetB (litB s) w) := by
  have hSB := SB_eq
  have HT : Hid (∀ w, Calls Tryz.prog 74 #[.string s, .func (.func 73) #[] #[]] w fun e w' => e = .returned (.bool (!(s.data.toList.all ltC))) ∧ Below w.heap.size w w') := Lib.hid fun w => by
    rw [← lit_odd]
    exact Tryz.strings_ContainsFunc_runes _ _ (enters_of Tryz.func73 (by kernel_rfl) rfl) _ s w (odd_pays w)
  unfold litB
  generalize s.data.toList.all ltC = a at *
  go_enter Tryz.func48, Tryz.ntmps48
  go_wp2_with (go_at_call 74; refine (HT.out _).mono ?_; rintro e w1 ⟨rfl, hb⟩)
  all_goals (go_ret; refine ⟨?_, by first | exact hb | exact Below.refl _ _⟩; clear HT; simp_all; try (intro _; omega))
end Go.Proofs.YthpagppipifgeaaGreatDoor
