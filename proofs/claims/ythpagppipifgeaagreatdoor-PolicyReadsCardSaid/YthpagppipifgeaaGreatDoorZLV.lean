/- LReadsCore LRefAll, in one text. -/
import Derived.Test.YthpagppipifgeaaGreatDoorZLRefPa
import Derived.Test.YthpagppipifgeaaGreatDoorZLRefS
import Derived.Test.YthpagppipifgeaaGreatDoorZLFixed
import Derived.Test.YthpagppipifgeaaGreatDoorZLRefP3
import Derived.Test.YthpagppipifgeaaGreatDoorZLK
import Derived.Test.YthpagppipifgeaaGreatDoorZLJ
/- PolicyReads: the law's walk, over many's. -/
namespace Go.Proofs.YthpagppipifgeaaGreatDoor.policyReads
open Go.RowKit

theorem row_same {w w' : World} (hs : ∀ k, k < w.heap.size → w'.heap[k]? = w.heap[k]?) : ∀ {F : Fo} {b f : Nat}, Row w F b f → Row w' F b f := by
  intro F
  induction F with
  | nil => exact fun _ => trivial
  | cons k o n t kids nx ih1 ih2 =>
    rintro b f ⟨⟨ad, c, b1, f1, h0, h1, h2, h3, h4, r1, r2, r3, r4, r5, r6⟩, hn⟩
    have hlt : b < w.heap.size := World.block_lt_of_cell? w _ h0
    have hc : ∀ i, w'.cell? ⟨b, f + i, none⟩ = w.cell? ⟨b, f + i, none⟩ := fun i => by simp only [World.cell?, hs b hlt]
    exact ⟨⟨ad, c, b1, f1, (hc 0).trans h0, (hc 1).trans h1, (hc 2).trans h2, (hc 3).trans h3, (hc 4).trans h4, r1, r2, r3, r4, r5, ih1 r6⟩, ih2 hn⟩
theorem slf_same {w w' : World} {F : Fo} {ad : Option Addr} {c : Nat} (h : SlF w F ad c) (hs : ∀ k, k < w.heap.size → w'.heap[k]? = w.heap[k]?) : SlF w' F ad c := by
  obtain ⟨h1, h2, b, f, h3, h4⟩ := h
  exact ⟨h1, h2, b, f, h3, row_same hs h4⟩
set_option maxRecDepth 100000 in
set_option maxHeartbeats 4000000 in
theorem law_core (hM : ∀ f, ManyAt f 1) (s : ByteArray) (w : World) : Calls Tryz.prog 4 #[.string s] w (RetB true w) := by
  have hR := Rws.start w
  obtain ⟨r, hr⟩ : ∃ r, r = ParseR s.data.toList := ⟨_, rfl⟩
  have HP : Hid (∀ u, Calls Tryz.prog 16 #[.string s] u (PRet r u)) := Lib.hid fun u => by rw [hr]; exact Parse_any s u
  have HQ : Hid (∀ u, Calls Tryz.prog 17 #[.string s] u (PRet r u)) := Lib.hid fun u => by rw [hr]; exact refParse_any hM s u
  clear hM hr
  obtain ⟨⟨k, o, n, t, F⟩, E⟩ := r
  have hEE : (E == E) = true := by simp
  go_enter Tryz.func4, Tryz.ntmps4
  go_upto_region 2 with (first
    | (go_at_call 16; refine (HP.out _).mono ?_; rintro e w2 ⟨⟨a1, c1, rfl, hs1⟩, _, _, hb⟩; have hR := hR.call hb)
    | (refine wQ_alloc (cs := zP) rfl _ (by rfl) (by assumption) zero_pol ?_; intro g3 w3 hR hbg3 hg3)
    | (refine wQ_store rfl _ _ _ (by rfl) (by exact hR) g3 rfl #[.int .i64 k, .int .i64 o, .string n, .string t, .slice a1 F.len c1] (by rfl) _ _ _ (by repeat (first | exact Pick.here | apply Pick.there)) (by kernel_rfl) (by kernel_rfl) (by kernel_rfl) ?_; intro w4 hR hsm hsz))
  have hsl1 : SlF w4 F a1 c1 := (hs1.same (Q' := fun _ => True) (fun _ _ _ => trivial) (fun k _ hlt => (hsm k (by omega)).trans (hbg3.block k hlt))).slf
  clear hs1 hsm hsz hbg3 hg3 hb
  go_upto_region 3 with (first
    | (go_at_call 17; refine (HQ.out _).mono ?_; rintro e w5 ⟨⟨a2, c2, rfl, hs2⟩, _, _, hb⟩; have hR := hR.call hb)
    | (refine wQ_alloc (cs := zP) rfl _ (by rfl) (by assumption) zero_pol ?_; intro g5 w6 hR hbg5 hg5)
    | (refine wQ_store rfl _ _ _ (by rfl) (by exact hR) g5 rfl #[.int .i64 k, .int .i64 o, .string n, .string t, .slice a2 F.len c2] (by rfl) _ _ _ (by repeat (first | exact Pick.here | apply Pick.there)) (by kernel_rfl) (by kernel_rfl) (by kernel_rfl) ?_; intro w7 hR hsm hsz))
  have hsl2 : SlF w7 F a2 c2 := (hs2.same (Q' := fun _ => True) (fun _ _ _ => trivial) (fun k _ hlt => (hsm k (by omega)).trans (hbg5.block k hlt))).slf
  have hsl1' : SlF w7 F a1 c1 := slf_same (hsl1.grown hb) (fun k hk => (hsm k (by omega)).trans (hbg5.block k hk))
  clear hs2 hsm hsz hbg5 hg5 hb hsl1
  go_wp2_with (first
    | (refine wpList_load_rws rfl _ _ (by rfl) (by assumption) _ rfl _ _ (by repeat (first | exact List.Mem.head _ | refine List.Mem.tail _ ?_)) _ Tryz.underlying24 rfl (by kernel_rfl) ?_)
    | (go_at_call 18; refine (same_any F k o n t a1 c1 a2 c2 _ hsl1' hsl2).mono ?_; rintro e w8 ⟨rfl, hb⟩; have hR := hR.call hb)
    | (go_at_call 15; refine (fixed_any _).mono ?_; rintro e w9 ⟨rfl, hb⟩; have hR := hR.call hb))
  go_ret
  exact ⟨rfl, hR.below⟩
end Go.Proofs.YthpagppipifgeaaGreatDoor.policyReads
/- ostiaryref20.single, many: for every fuel; PolicyReads' walk whole. -/
namespace Go.Proofs.YthpagppipifgeaaGreatDoor
open Go.RowKit

theorem testL_none {ts : List Tok} (h : ¬ ∃ a b t r, ts = (a, false) :: (b, false) :: (t, true) :: r) : testL ts = none := by
  unfold testL
  split
  · next a b t r => exact absurd ⟨a, b, t, r, rfl⟩ h
  · rfl
theorem single_any (f : Nat) (hm : ManyAt f 1) (hs : SingleAt f) : SingleAt (f + 1) := by
  intro ts ad c w0 w hf hb0 hs0
  rw [parseL_one]
  cases h1 : isT [40] ts with
  | true => exact single_open f hm ts ad c w0 w hb0 hs0 (by omega) h1
  | false =>
    cases h2 : isT sAlways ts with
    | true => exact single_always f ts ad c w0 w hb0 hs0 h1 h2
    | false =>
      cases h3 : isT sNot ts with
      | true => exact single_not f hs ts ad c w0 w hb0 hs0 (by omega) h1 h2 h3
      | false =>
        rw [show oneL (parseL f) ts = testL ts by unfold oneL; rw [if_neg (by rw [h1]; decide), if_neg (by rw [h2]; decide), if_neg (by rw [h3]; decide)]]
        by_cases hx : ∃ a b t r, ts = (a, false) :: (b, false) :: (t, true) :: r
        · obtain ⟨a, b, t, r, rfl⟩ := hx
          exact single_test a b t r ad c w0 w hb0 hs0 h1 h2 h3
        · rw [testL_none hx]
          refine single_bad ts ad c w0 w hb0 hs0 h1 h2 h3 ?_
          match ts, hx with
          | [], _ => exact Or.inl (by simp)
          | [_], _ => exact Or.inl (by simp)
          | [_, _], _ => exact Or.inl (by simp)
          | (a, qa) :: (b, qb) :: (t, qt) :: r, hx =>
            refine Or.inr ⟨_, _, _, r, rfl, fun h => hx ?_⟩
            obtain ⟨rfl, rfl, rfl⟩ := h
            exact ⟨a, b, t, r, rfl⟩
theorem all_read : ∀ f, (∀ g, g ≤ f → SingleAt g) ∧ (∀ g, g ≤ f → ManyAt g 0) ∧ (∀ g, g ≤ f → ManyAt g 1) := by
  intro f
  induction f with
  | zero =>
    refine ⟨fun g hg => ?_, fun g hg => ?_, fun g hg => ?_⟩
    · intro ts ad c w0 w hf; omega
    · intro ts ad c w0 w hf; omega
    · intro ts ad c w0 w hf; omega
  | succ f ih =>
    obtain ⟨h1, h2, h3⟩ := ih
    refine ⟨fun g hg => ?_, fun g hg => ?_, fun g hg => ?_⟩
    · rcases Nat.lt_or_ge f g with h | h
      · obtain rfl : g = f + 1 := by omega
        exact single_any f (h3 f (Nat.le_refl _)) (h1 f (Nat.le_refl _))
      · exact h1 g h
    · rcases Nat.lt_or_ge f g with h | h
      · obtain rfl : g = f + 1 := by omega
        exact many0_any f h1
      · exact h2 g h
    · rcases Nat.lt_or_ge f g with h | h
      · obtain rfl : g = f + 1 := by omega
        exact many1_any f h2
      · exact h3 g h
end Go.Proofs.YthpagppipifgeaaGreatDoor
namespace Go.Proofs.YthpagppipifgeaaGreatDoor.policyReads
open Go.RowKit
theorem law_any (s : ByteArray) (w : World) (_ : s.size ≤ SB) : Calls Tryz.prog 4 #[.string s] w (RetB true w) :=
  law_core (fun f => (all_read f).2.2 f (Nat.le_refl _)) s w
end Go.Proofs.YthpagppipifgeaaGreatDoor.policyReads
