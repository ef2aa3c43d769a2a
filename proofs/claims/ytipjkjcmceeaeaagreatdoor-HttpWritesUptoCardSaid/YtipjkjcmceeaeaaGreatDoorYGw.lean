/- What the library's variables hold; strconv.Itoa, strings.Cut, strings.Split in our words. -/
import Derived.Test.YtipjkjcmceeaeaaGreatDoorYCut
import Derived.Test.YtipjkjcmceeaeaaGreatDoorShelf
import Derived.Lib.SmallJoins
import Derived.Lib.AppendIntMem
import Derived.Lib.ItoaMem
import Derived.Lib.ReplaceLaws
namespace Go.Proofs.YtipjkjcmceeaeaaGreatDoor
open Go.RowKit

structure Gw (w : World) : Prop where
  most : ∃ m, w.cell? ⟨0, 0, none⟩ = some (.int .i64 m)
  tab : Lib.TabIs Tryz.prog w "internal/strconv.uint64pow10" .u64 Lib.pow10Tab
theorem pow_named : (Tryz.prog.globalNamed "internal/strconv.uint64pow10").isSome = true := by kernel_rfl
theorem Gw.below {w w' : World} (h : Gw w) (hb : Below w.heap.size w w') : Gw w' := by
  obtain ⟨m, hm⟩ := h.most
  obtain ⟨g, hg⟩ := Option.isSome_iff_exists.1 pow_named
  exact ⟨⟨m, (hb.cell (p := ⟨0, 0, none⟩) (World.block_lt_of_cell? w _ hm)).trans hm⟩, Go.Joins.tab_stays hg h.tab hb (Nat.le_refl _)⟩
theorem itoa_any (n : Nat) (hn : n ≤ 9223372036854775807) (w : World) (hg : Gw w) : Calls Tryz.prog 47 #[.int .i64 (n : Nat)] w (RetS (bs (numS n)) w) :=
  (Tryz.strconv_Itoa (n : Int) (by omega) (by omega) w hg.tab).mono fun e w' h => by
    obtain ⟨rfl, k, os, rfl⟩ := h
    rw [Lib.itoa_nonneg]
    exact ⟨rfl, Lib.below_grow _ w (Nat.le_refl _) k os⟩
/-- strings.Cut's answer. -/
def cutV (sep s : Bs) : Value := .tuple #[.string ⟨(Lib.cut s sep).1.toArray⟩, .string ⟨(Lib.cut s sep).2.1.toArray⟩, .bool (Lib.cut s sep).2.2]
theorem cutV_some {sep s a b : Bs} (h : cutA sep s = some (a, b)) : cutV sep s = .tuple #[.string (bs a), .string (bs b), .bool true] := by
  unfold cutV Lib.cut
  unfold cutA at h
  split at h
  · next hi =>
    simp only [Option.some.injEq, Prod.mk.injEq] at h
    obtain ⟨rfl, rfl⟩ := h
    rw [if_pos hi]
    rfl
  · cases h
theorem cutV_none {sep s : Bs} (h : cutA sep s = none) : cutV sep s = .tuple #[.string (bs s), .string ⟨#[]⟩, .bool false] := by
  unfold cutV Lib.cut
  unfold cutA at h
  split at h
  · cases h
  · next hi =>
    rw [if_neg hi]
    rfl
theorem cut_any (s sep : Bs) (hs : s.length < 4294967281) (w : World) (hg : Gw w) : Calls Tryz.prog 28 #[.string (bs s), .string (bs sep)] w fun e w' => e = .returned (cutV sep s) ∧ Below w.heap.size w w' := by
  obtain ⟨m, hm⟩ := hg.most
  refine (Tryz.strings_Cut (bs s) (bs sep) m w (by rw [bs_size]; exact hs) hm).mono ?_
  rintro e w' ⟨rfl, n, rfl⟩
  exact ⟨rfl, below_drawn (Below.refl _ _) n⟩
theorem split_any (s sep : Bs) (hne : sep ≠ []) (hs : s.length < 4294967281) (w : World) (hg : Gw w) : Calls Tryz.prog 54 #[.string (bs s), .string (bs sep)] w (RetL (splitS sep s) w) := by
  obtain ⟨m, hm⟩ := hg.most
  have h1 : 1 ≤ (bs sep).size := by
    rw [bs_size]
    exact List.length_pos_iff.2 hne
  refine (Tryz.strings_Split (bs s) (bs sep) m w (by rw [bs_size]; exact hs) hm h1).mono ?_
  rintro e w' ⟨rfl, rfl⟩
  have hd := Lib.splitB_data (bs sep) 0 (Lib.countB (bs s) (bs sep)) (bs s)
  have hlen := Lib.splitB_all (bs sep) h1 0 _ (bs s) rfl
  have hs2 : splitS sep s = (Lib.splitB (bs sep) 0 (Lib.countB (bs s) (bs sep)) (bs s)).map (·.data.toList) := hd.symm
  have hl2 : (splitS sep s).length = Lib.countB (bs s) (bs sep) + 1 := by rw [hs2, List.length_map, hlen]
  have hv : (Lib.splitB (bs sep) 0 (Lib.countB (bs s) (bs sep)) (bs s)).map Value.string = StC (splitS sep s) := by
    rw [hs2]
    unfold StC
    rw [List.map_map]
    refine List.map_congr_left fun x _ => ?_
    cases x
    simp [bs]
  rw [hv]
  refine ⟨some ⟨w.heap.size, 0, none⟩, _, by rw [hl2], ⟨by rw [hl2]; exact Nat.le_refl _, ?_, w.heap.size, 0, Or.inl rfl, fun j u hj => ?_⟩, (Below.refl _ _).alloc (Nat.le_refl _) _⟩
  · have h2 := Lib.countB_mul_le (bs sep) h1 (bs s).size (bs s) (Nat.le_refl _)
    rw [bs_size s] at h2
    have h3 : Lib.countB (bs s) (bs sep) ≤ Lib.countB (bs s) (bs sep) * (bs sep).size := Nat.le_mul_of_pos_right _ h1
    have hMX := MX_eq
    omega
  · rw [Nat.zero_add]
    simp only [World.cell?, heap_alloc_new]
    simpa using hj
end Go.Proofs.YtipjkjcmceeaeaaGreatDoor
