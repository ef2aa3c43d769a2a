/- strings.Split at a point: the words. -/
import Derived.Test.YtebhiplcoioenaaGreatDoorZDI
import Derived.Test.YtebhiplcoioenaaGreatDoorZZGd
import Derived.Test.YtebhiplcoioenaaGreatDoorZDG
namespace Go.Proofs.YtebhiplcoioenaaGreatDoor
open Go.RowKit

theorem split_hit {s : Bs} {i : Nat} (h : Lib.index s [46] = i) : Lib.split s [46] = s.take i :: Lib.split (s.drop (i + 1)) [46] := by
  unfold Lib.split
  rw [Lib.count_hit (by decide) h, Nat.add_comm]
  rw [show Lib.splitK [46] 0 (Lib.count (s.drop (i + ([46] : Bs).length)) [46] + 1) s = s.take ((Lib.index s [46]).toNat + 0) :: Lib.splitK [46] 0 (Lib.count (s.drop (i + ([46] : Bs).length)) [46]) (s.drop ((Lib.index s [46]).toNat + ([46] : Bs).length)) by
    rw [Lib.splitK, if_neg (by rw [h]; simp)]]
  rw [h]
  simp
theorem split_miss {s : Bs} (h : Lib.index s [46] = -1) : Lib.split s [46] = [s] := by
  unfold Lib.split
  rw [Lib.count_miss h]; rfl
theorem index_next {c : UInt8} (r : Bs) (hc : c ≠ 46) : Lib.index (c :: r) [46] = if Lib.index r [46] = -1 then -1 else Lib.index r [46] + 1 := by
  have hp : ([46] : Bs).isPrefixOf (c :: r) = false := by
    simp only [List.isPrefixOf, Bool.and_true]
    simpa using fun e => hc e.symm
  rw [Lib.index, if_neg (by rw [hp]; simp)]
  by_cases h : Lib.index r [46] = -1
  · rw [if_pos h, if_pos (by rw [h]; rfl)]
  · rw [if_neg h, if_neg (by simpa using h)]
theorem split_is : ∀ s : Bs, Lib.split s [46] = splitW s
  | [] => rfl
  | c :: r => by
    have ih := split_is r
    by_cases hc : c = 46
    · subst hc
      have h0 : Lib.index (46 :: r) [46] = (0 : Nat) := by
        rw [Lib.index, if_pos (by simp [List.isPrefixOf])]; rfl
      rw [split_hit h0, splitW, if_pos rfl]
      simp only [List.take_zero, List.drop_succ_cons, List.drop_zero]
      rw [ih]
    · rw [splitW, if_neg hc]
      have hn := index_next r hc
      rcases Lib.index_spec r [46] with ⟨h1, _⟩ | ⟨i, h1, _, _, _⟩
      · rw [if_pos h1] at hn
        rw [split_miss hn, ← ih, split_miss h1]
      · rw [if_neg (by rw [h1]; omega), h1] at hn
        have hn2 : Lib.index (c :: r) [46] = ((i + 1 : Nat) : Int) := by rw [hn]; omega
        rw [split_hit hn2, ← ih, split_hit h1]
        simp only [List.take_succ_cons, List.drop_succ_cons]
theorem splitW_len : ∀ s : Bs, (splitW s).length ≤ s.length + 1 ∧ ∀ w ∈ splitW s, w.length ≤ s.length
  | [] => ⟨Nat.le_refl _, fun w hw => by simp [splitW] at hw; subst hw; exact Nat.le_refl _⟩
  | c :: r => by
    obtain ⟨h1, h2⟩ := splitW_len r
    rw [splitW]
    by_cases hc : c = 46
    · rw [if_pos hc]
      refine ⟨by simp only [List.length_cons]; omega, fun w hw => ?_⟩
      rcases List.mem_cons.1 hw with rfl | hw
      · exact Nat.zero_le _
      · have := h2 w hw; simp only [List.length_cons]; omega
    · rw [if_neg hc]
      cases hs : splitW r with
      | nil => exact ⟨by simp, fun w hw => by simp at hw; subst hw; simp⟩
      | cons x l =>
        rw [hs] at h1 h2
        refine ⟨by simp only [List.length_cons] at h1 ⊢; omega, fun w hw => ?_⟩
        rcases List.mem_cons.1 hw with rfl | hw
        · have := h2 x (List.mem_cons_self ..); simp only [List.length_cons] at this ⊢; omega
        · have := h2 w (List.mem_cons_of_mem _ hw); simp only [List.length_cons]; omega
theorem split_any (s : Bs) (hs : s.length ≤ 4000000000) (w : World) (hg : Gd w) : Calls Tryz.prog 45 #[.string (bs s), .string ⟨#[46]⟩] w fun e w' => ∃ g, e = .returned (.slice (some ⟨g, 0, none⟩) (splitW s).length (splitW s).length) ∧ (∀ (j : Nat) x, (splitW s)[j]? = some x → w'.cell? ⟨g, j, none⟩ = some (.string (bs x))) ∧ g < w'.heap.size ∧ Below w.heap.size w w' := by
  obtain ⟨m, hm⟩ := hg.most
  have h1 : 1 ≤ (bs [46]).size := by rw [bs_size]; exact Nat.le_refl _
  refine (Tryz.strings_Split (bs s) (bs [46]) m w (by rw [bs_size]; omega) hm h1).mono ?_
  rintro e w' ⟨rfl, rfl⟩
  have hd := Lib.splitB_data (bs [46]) 0 (Lib.countB (bs s) (bs [46])) (bs s)
  have hlen := Lib.splitB_all (bs [46]) h1 0 _ (bs s) rfl
  have hs2 : splitW s = (Lib.splitB (bs [46]) 0 (Lib.countB (bs s) (bs [46])) (bs s)).map (·.data.toList) := by rw [← split_is]; exact hd.symm
  have hl2 : (splitW s).length = Lib.countB (bs s) (bs [46]) + 1 := by rw [hs2, List.length_map, hlen]
  have hv : (Lib.splitB (bs [46]) 0 (Lib.countB (bs s) (bs [46])) (bs s)).map Value.string = StC (splitW s) := by
    rw [hs2]
    unfold StC
    rw [List.map_map]
    refine List.map_congr_left fun x _ => ?_
    cases x
    simp [bs]
  rw [hv]
  refine ⟨w.heap.size, by rw [hl2], fun j x hj => ?_, by simp, (Below.refl _ _).alloc (Nat.le_refl _) _⟩
  simp only [World.cell?, heap_alloc_new]
  unfold StC
  simp [hj]
end Go.Proofs.YtebhiplcoioenaaGreatDoor
