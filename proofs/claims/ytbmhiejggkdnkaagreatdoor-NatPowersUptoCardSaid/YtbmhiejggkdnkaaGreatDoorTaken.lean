/- taken: the walk. -/
import Derived.Test.YtbmhiejggkdnkaaGreatDoorToldAll
namespace Go.Proofs.YtbmhiejggkdnkaaGreatDoor
open Go.RowKit

/-- A slice's three parts. -/
structure Sl where
  a : Option Addr
  n : Nat
  c : Nat
def Sl.v (s : Sl) : Value := .slice s.a s.n s.c

/-- The values of a row of numbers' slices. -/
structure Nums (w : World) (n : Nat) (vals : List Sl) (sf : Nat → ByteArray) : Prop where
  len : vals.length = n
  num : ∀ (i : Nat) (s : Sl), vals[i]? = some s → Num w s.a s.n s.c (bv (sf i).data.toList)

theorem Nums.below {w w' : World} {n : Nat} {vals : List Sl} {sf : Nat → ByteArray} (h : Nums w n vals sf) (hb : Below w.heap.size w w') : Nums w' n vals sf :=
  ⟨h.len, fun i s hi => (h.num i s hi).below hb (Nat.le_refl _)⟩

/-- What taken answers. -/
def TakenPost (md : Bool) (n : Nat) (sf : Nat → ByteArray) (w : World) (e : Ending) (w' : World) : Prop :=
  Below w.heap.size w w' ∧
    (((∃ i, i < n ∧ 512 < (sf i).size) ∧ e = .returned (.tuple #[.slice none 0 0, errLong])) ∨
     ((∀ i, i < n → (sf i).size ≤ 512) ∧ md = true ∧ bv (sf (n - 1)).data.toList = 0 ∧ e = .returned (.tuple #[.slice none 0 0, errZero])) ∨
     ((∀ i, i < n → (sf i).size ≤ 512) ∧ (md = true → 0 < bv (sf (n - 1)).data.toList) ∧ ∃ g cap vals, e = .returned (.tuple #[.slice (some ⟨g, 0, none⟩) n cap, .nilIface]) ∧ Nums w' n vals sf ∧ ∀ (i : Nat) (s : Sl), vals[i]? = some s → w'.cell? ⟨g, i, none⟩ = some s.v))

theorem infoL : (Tryz.prog.info? 52).map (fun i => (i.zero, i.size, i.bytes)) = some (some (.slice none 0 0), 1, 24) := by kernel_rfl

theorem ownsRow_below {w w' : World} {B : Nat} {e : TypeId} {size : Nat} {v : Value} {n : Nat} {xs : List Value} (h : w.ownsRow B e size v n xs) (hb : Below w.heap.size w w') : w'.ownsRow B e size v n xs := by
  obtain ⟨h1, h2⟩ := h
  refine ⟨h1, ?_⟩
  rcases h2 with h2 | ⟨g, cap, cur, hv, hg, hh, r⟩
  · exact Or.inl h2
  · exact Or.inr ⟨g, cap, cur, hv, hg, by rw [hb.block g (by have := (Array.getElem?_eq_some_iff.1 hh).1; omega)]; exact hh, r⟩

/-- A row of slices lies in another block than a number's digits. -/
theorem row_apart {w : World} {B : Nat} {e : TypeId} {v : Value} {k : Nat} {s0 : Sl} {r : List Value} (h : w.ownsRow B e 1 v k (s0.v :: r)) {ao : Option Addr} {n c a : Nat} (hn : Num w ao n c a) (h0 : off ao = 0) :
    n = 0 ∨ some (blk ao) ≠ v.ownBlock := by
  rcases Nat.eq_zero_or_pos n with hz | hp
  · exact Or.inl hz
  · right
    intro he
    have hc := hn.rd.cell 0 hp
    rw [h0] at hc
    have hlen := h.1
    rcases h.2 with ⟨rfl, hk⟩ | ⟨g, cap, cur, rfl, _⟩
    · simp [Value.ownBlock] at he
    · simp only [Value.ownBlock, Option.some.injEq] at he
      rw [he] at hc
      simp only [List.length_cons] at hlen
      have h2 := h.cellAt 0 (by omega)
      rw [show (0 + 0 : Nat) = 0 from rfl] at hc
      rw [hc] at h2
      simp [Sl.v] at h2

/-- Numbers are kept where such a row is written. -/
theorem Num.kept {w w' : World} {B : Nat} {e : TypeId} {v : Value} {k : Nat} {vals : List Sl} (h : w.ownsRow B e 1 v k (vals.map Sl.v)) (hnil : vals = [] → v = .slice none 0 0) (hg : w.grownBy w' v.ownBlock) {ao : Option Addr} {n c a : Nat} (hn : Num w ao n c a) (h0 : off ao = 0) : Num w' ao n c a := by
  refine ⟨hn.len, hn.rd.sh, hn.rd.le, hn.rd.cm, fun j hj => hg.cell (hn.rd.cell j hj) ?_⟩
  cases vals with
  | nil =>
    rw [hnil rfl]
    simp [Value.ownBlock]
  | cons s0 r =>
    rcases row_apart h hn h0 with h1 | h1
    · omega
    · exact h1

set_option maxRecDepth 100000 in
set_option maxHeartbeats 800000 in
theorem taken_any (md : Bool) (b n : Nat) (sf : Nat → ByteArray) (w : World) (hn : 0 < n) (hn3 : n ≤ 3) (hc : ∀ i, i < n → w.cell? ⟨b, i, none⟩ = some (.string (sf i))) (hsz : ∀ i, i < n → (sf i).size ≤ 9223372036854775807) :
    Calls Tryz.prog 24 #[.bool md, .slice (some ⟨b, 0, none⟩) n n] w (TakenPost md n sf w) := by
  have hbl : b < w.heap.size := World.block_lt_of_cell? w ⟨b, 0, none⟩ (hc 0 hn)
  obtain ⟨iL, hiL, hz0, hz1, hz2⟩ := info_parts infoL
  have HC := Lib.hid hc; have HSZ := Lib.hid hsz; clear hc hsz
  go_enter Tryz.func24, Tryz.ntmps24
  go_wp2_with fail
  go_loopw [6, 11] (fun ov iv wr => ∃ (k : Nat) (vals : List Sl), k ≤ n ∧ iv = .int .i64 k ∧ (∀ i, i < k → (sf i).size ≤ 512) ∧ (∀ s ∈ vals, off s.a = 0) ∧ (vals = [] → ov = .slice none 0 0) ∧ wr.ownsRow w.heap.size 52 1 ov k (vals.map Sl.v) ∧ Nums wr k vals sf ∧ Below w.heap.size w wr) (fun _ iv _ => n - (intOf iv).toNat)
  case atStart => exact ⟨0, [], Nat.zero_le _, rfl, fun i h => absurd h (Nat.not_lt_zero i), by simp, fun _ => rfl, World.ownsRow_nil _ _ _ _, ⟨rfl, fun i s h => by simp at h⟩, Below.refl _ _⟩
  case round =>
    obtain ⟨k, vals, hk, rfl, h512, hoff, hnil, hown, hnums, hbel⟩ := hrel
    have H512 := Lib.hid h512; have HOFF := Lib.hid hoff; have HNIL := Lib.hid hnil; clear h512 hoff hnil
    have hszz := hbel.size
    by_cases hkn : k < n
    · have hck : wr.cell? ⟨b, k, none⟩ = some (.string (sf k)) := (hbel.cell (p := ⟨b, k, none⟩) hbl).trans (HC.out k hkn)
      have hsk := HSZ.out k hkn
      by_cases hlong : 512 < (sf k).size
      · go_wp2_with fail
        go_ret2
        exact ⟨hbel, Or.inl ⟨⟨k, hkn, hlong⟩, rfl⟩⟩
      · have hle : (sf k).size ≤ 512 := by omega
        go_wp2_with (first
          | (go_at_call 46; refine (read_any (sf k) _ (by omega)).mono ?_; rintro e w2 ⟨ro, rn, rc, rfl, hnum, hb2, hro⟩; have HRO := Lib.hid hro; clear hro; have hown2 := ownsRow_below hown hb2; have hsz2 := hb2.size)
          | (at_builtin; refine wpList_append_own _ rfl (.tmp 19) (.tmp 22) _ rfl w.heap.size 52 iL (.slice none 0 0) 1 24 Tryz.underlying45 hiL hz0 hz1 hz2 rfl (by decide) _ k (vals.map Sl.v) rfl (hown2.alloc _) ⟨w2.heap.size, 0, none⟩ 1 1 [Sl.v ⟨ro, rn, rc⟩] rfl rfl ?h1 (by simp [Sl.v, Value.oneCell']) (by unfold maxLen; omega) (by omega) (by simp; omega) ?_; rotate_left; intro v' w3 hown3 hgr3 hnil3))
        case h1 => exact new_cells _ _ _
        have hnums3 : Nums w3 (k + 1) (vals ++ [⟨ro, rn, rc⟩]) sf := by
          refine ⟨by simp [hnums.len], fun i s hi => ?_⟩
          have hb2a : Below w2.heap.size w2 (w2.alloc (.cells #[.slice ro rn rc] 52)) := (Below.refl _ _).alloc (Nat.le_refl _) _
          rcases Nat.lt_or_ge i vals.length with h | h
          · rw [List.getElem?_append_left h] at hi
            exact Num.kept (hown2.alloc _) HNIL.out hgr3 (((hnums.num i s hi).below hb2 (Nat.le_refl _)).below hb2a (Nat.le_refl _)) (HOFF.out s (List.mem_of_getElem? hi))
          · rw [List.getElem?_append_right h] at hi
            have h0 : i - vals.length = 0 := by
              rcases Nat.eq_zero_or_pos (i - vals.length) with h | h
              · exact h
              · rw [List.getElem?_eq_none (by simp only [List.length_cons, List.length_nil]; omega)] at hi; simp at hi
            rw [h0] at hi
            simp only [List.getElem?_cons_zero, Option.some.injEq] at hi
            subst hi
            have hik : i = k := by have := hnums.len; omega
            subst hik
            exact Num.kept (hown2.alloc _) HNIL.out hgr3 (hnum.below hb2a (Nat.le_refl _)) HRO.out
        go_roundw
        case rel =>
          refine ⟨k + 1, vals ++ [⟨ro, rn, rc⟩], by omega, by go_num, fun i hi => ?_, fun s hs => ?_, fun h => by simp at h, by rw [List.map_append]; exact hown3, hnums3, ?_⟩
          · by_cases h : i < k
            · exact H512.out i h
            · obtain rfl : i = k := by omega
              exact hle
          · rcases List.mem_append.1 hs with h | h
            · exact HOFF.out s h
            · rw [List.mem_singleton.1 h]; exact HRO.out
          · exact ((hbel.trans (hb2.mono hszz)).alloc (by omega) _).grown hgr3 (by simp; omega) (fun g hg => (hown2.lt g hg).1)
        case measure => simp [intOf]; omega
    · obtain rfl : k = n := by omega
      have hsh : ∃ g cap, u6 = .slice (some ⟨g, 0, none⟩) k cap := by
        rcases hown.2 with ⟨_, h0⟩ | ⟨g, cap, cur, hv, _⟩
        · omega
        · exact ⟨g, cap, hv⟩
      obtain ⟨g, cap, rfl⟩ := hsh
      have hlen := hnums.len
      have hcell : ∀ (i : Nat) (s : Sl), vals[i]? = some s → wr.cell? ⟨g, i, none⟩ = some s.v := fun i s hi => by
        have hik : i < k := by rw [← hlen]; exact (List.getElem?_eq_some_iff.1 hi).1
        rw [hown.cellAt i (by omega), List.getElem?_map, hi]; rfl
      obtain ⟨s, hs⟩ : ∃ s, vals[k - 1]? = some s := ⟨_, List.getElem?_eq_getElem (by omega)⟩
      have hcs : wr.cell? ⟨g, k - 1, none⟩ = some (.slice s.a s.n s.c) := hcell (k - 1) s hs
      have hnum := hnums.num (k - 1) s hs
      have hz : s.n = 0 ↔ bv (sf (k - 1)).data.toList = 0 := by
        rw [hnum.len]
        constructor
        · exact Dg.eq_zero_of_len LB2
        · intro h; rw [h, Dg.len_zero]
      obtain ⟨sa, sn, sc⟩ := s
      simp only at hcs hz
      have HCELL := Lib.hid hcell; have HZ := Lib.hid hz; have HLEN := Lib.hid hlen; have HS := Lib.hid hs
      clear hcell hz hlen hs
      cases md with
      | false =>
        go_wp2_with fail
        go_ret2
        exact ⟨hbel, Or.inr (Or.inr ⟨H512.out, fun h => by simp at h, g, cap, vals, rfl, hnums, HCELL.out⟩)⟩
      | true =>
        by_cases h0 : sn = 0
        · have hb0 : ((sn : Int) == 0) = true := by simp [h0]
          go_wp2_with fail
          go_ret2
          exact ⟨hbel, Or.inr (Or.inl ⟨H512.out, rfl, HZ.out.1 h0, rfl⟩)⟩
        · have hb0 : ((sn : Int) == 0) = false := by simp [h0]
          go_wp2_with fail
          go_ret2
          exact ⟨hbel, Or.inr (Or.inr ⟨H512.out, fun _ => Nat.pos_of_ne_zero fun h => h0 (HZ.out.2 h), g, cap, vals, rfl, hnums, HCELL.out⟩)⟩
end Go.Proofs.YtbmhiejggkdnkaaGreatDoor
