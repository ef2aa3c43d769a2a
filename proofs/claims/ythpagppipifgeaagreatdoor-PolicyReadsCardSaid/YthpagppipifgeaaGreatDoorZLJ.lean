/- LRefP4 LRefP5, in one text. -/
import Derived.Test.YthpagppipifgeaaGreatDoorZLM
import Derived.Test.YthpagppipifgeaaGreatDoorZLL
import Derived.Test.YthpagppipifgeaaGreatDoorZLTest
/- ostiaryref20.single: what is no test, for want of tokens. -/
namespace Go.Proofs.YthpagppipifgeaaGreatDoor
open Go.RowKit

set_option maxRecDepth 100000 in
set_option maxHeartbeats 4000000 in
theorem single_bad (ts : List Tok) (ad : Option Addr) (c : Nat) (w0 w : World) (hb0 : Below w0.heap.size w0 w) (hs0 : SlT w0 ts ad c) (h1 : isT [40] ts = false) (h2 : isT sAlways ts = false) (h3 : isT sNot ts = false)
    (hbad : ts.length < 3 ∨ ∃ x y z r, ts = x :: y :: z :: r ∧ ¬ (x.2 = false ∧ y.2 = false ∧ z.2 = true)) :
    Calls Tryz.prog 64 #[.slice ad ts.length c] w (PKq none w0 w) := by
  have hMX := MX_eq
  have hs := hs0.grown hb0
  have HIp : Hid (∀ u, Below w.heap.size w u → Calls Tryz.prog 65 #[.slice ad ts.length c, .string ⟨#[40]⟩] u fun e w' => e = .returned (.bool false) ∧ w' = u) := Lib.hid fun u hb => by rw [← h1]; exact is_any ts ad c ⟨#[40]⟩ u (hs.grown hb)
  have HIa : Hid (∀ u, Below w.heap.size w u → Calls Tryz.prog 65 #[.slice ad ts.length c, .string ⟨#[97, 108, 119, 97, 121, 115]⟩] u fun e w' => e = .returned (.bool false) ∧ w' = u) := Lib.hid fun u hb => by rw [← h2]; exact is_any ts ad c ⟨#[97, 108, 119, 97, 121, 115]⟩ u (hs.grown hb)
  have HIn : Hid (∀ u, Below w.heap.size w u → Calls Tryz.prog 65 #[.slice ad ts.length c, .string ⟨#[110, 111, 116]⟩] u fun e w' => e = .returned (.bool false) ∧ w' = u) := Lib.hid fun u hb => by rw [← h3]; exact is_any ts ad c ⟨#[110, 111, 116]⟩ u (hs.grown hb)
  have hR := Rws.start w
  rcases hbad with hlt | ⟨x, y, z, r, rfl, hne⟩
  · have hltz : (ts.length : Int) < 3 := by omega
    clear hs hs0 h1 h2 h3 hlt
    generalize ts.length = L at *
    go_enter Tryz.func64, Tryz.ntmps64
    go_upto_region 1 with (refine wQ_alloc (cs := zP) rfl _ (by rfl) (by assumption) zero_pol ?_; intro g0 w1 hR hbg0 hg0)
    go_wp2_with (first
      | (go_at_call_of 65 (Value.string ⟨#[40]⟩); refine (HIp.out _ hR.below).mono ?_; rintro e wip ⟨rfl, rfl⟩)
      | (go_at_call_of 65 (Value.string ⟨#[97, 108, 119, 97, 121, 115]⟩); refine (HIa.out _ hR.below).mono ?_; rintro e wia ⟨rfl, rfl⟩)
      | (go_at_call_of 65 (Value.string ⟨#[110, 111, 116]⟩); refine (HIn.out _ hR.below).mono ?_; rintro e win ⟨rfl, rfl⟩)
      | (refine wQ_store rfl _ _ _ (by rfl) (by exact hR) g0 rfl #[.int .i64 0, .int .i64 0, .string ⟨#[]⟩, .string ⟨#[]⟩, .slice none 0 0] (by rfl) _ _ _ (by repeat (first | exact Pick.here | apply Pick.there)) (by kernel_rfl) (by kernel_rfl) (by kernel_rfl) ?_; intro w2 hR hsm hsz))
    all_goals
      refine bodyPost_rws3 rfl hR g0 rfl _ _ (List.Mem.head _) _ Tryz.underlying24 rfl (by kernel_rfl) _ _ rfl rfl rfl (fun hbz => ?_)
      exact ⟨⟨_, _, _, _, _, _, _, _, rfl⟩, hbz⟩
  · obtain ⟨hle, hcm, _, b, fo, had, hrow⟩ := hs
    obtain rfl : ad = some ⟨b, fo, none⟩ := by rcases had with h | ⟨_, h⟩; exact h; simp at h
    obtain ⟨⟨c0, c1⟩, ⟨c2, c3⟩, ⟨c4, c5⟩, _⟩ := hrow
    have hblt := World.block_lt_of_cell? w _ c0
    have hL3 : ¬ (((x :: y :: z :: r : List Tok).length : Nat) : Int) < 3 := by simp only [List.length_cons]; omega
    have hL0 : (0 : Int) < (((x :: y :: z :: r : List Tok).length : Nat) : Int) := by simp only [List.length_cons]; omega
    have hL1 : (1 : Int) < (((x :: y :: z :: r : List Tok).length : Nat) : Int) := by simp only [List.length_cons]; omega
    have hL2 : (2 : Int) < (((x :: y :: z :: r : List Tok).length : Nat) : Int) := by simp only [List.length_cons]; omega
    generalize (x :: y :: z :: r : List Tok).length = L at *
    obtain ⟨xa, xq⟩ := x
    obtain ⟨ya, yq⟩ := y
    obtain ⟨za, zq⟩ := z
    simp only at c0 c1 c2 c3 c4 c5 hne
    clear hs0 h1 h2 h3 had
    cases xq with
    | true =>
      clear hne
      go_enter Tryz.func64, Tryz.ntmps64
      go_upto_region 1 with (refine wQ_alloc (cs := zP) rfl _ (by rfl) (by assumption) zero_pol ?_; intro g0 w1 hR hbg0 hg0)
      have q0 := (hbg0.cell (p := ⟨b, fo + 0, none⟩) hblt).trans c0
      have q1 := (hbg0.cell (p := ⟨b, fo + 1, none⟩) hblt).trans c1
      have q2 := (hbg0.cell (p := ⟨b, fo + 2, none⟩) hblt).trans c2
      have q3 := (hbg0.cell (p := ⟨b, fo + 3, none⟩) hblt).trans c3
      have q4 := (hbg0.cell (p := ⟨b, fo + 4, none⟩) hblt).trans c4
      have q5 := (hbg0.cell (p := ⟨b, fo + 5, none⟩) hblt).trans c5
      go_wp2_with (first
        | (go_at_call_of 65 (Value.string ⟨#[40]⟩); refine (HIp.out _ hR.below).mono ?_; rintro e wip ⟨rfl, rfl⟩)
        | (go_at_call_of 65 (Value.string ⟨#[97, 108, 119, 97, 121, 115]⟩); refine (HIa.out _ hR.below).mono ?_; rintro e wia ⟨rfl, rfl⟩)
        | (go_at_call_of 65 (Value.string ⟨#[110, 111, 116]⟩); refine (HIn.out _ hR.below).mono ?_; rintro e win ⟨rfl, rfl⟩)
        | (refine wQ_store rfl _ _ _ (by rfl) (by exact hR) g0 rfl #[.int .i64 0, .int .i64 0, .string ⟨#[]⟩, .string ⟨#[]⟩, .slice none 0 0] (by rfl) _ _ _ (by repeat (first | exact Pick.here | apply Pick.there)) (by kernel_rfl) (by kernel_rfl) (by kernel_rfl) ?_; intro w2 hR hsm hsz))
      all_goals
        refine bodyPost_rws3 rfl hR g0 rfl _ _ (List.Mem.head _) _ Tryz.underlying24 rfl (by kernel_rfl) _ _ rfl rfl rfl (fun hbz => ?_)
        exact ⟨⟨_, _, _, _, _, _, _, _, rfl⟩, hbz⟩
    | false =>
      cases yq with
      | true =>
        clear hne
        go_enter Tryz.func64, Tryz.ntmps64
        go_upto_region 1 with (refine wQ_alloc (cs := zP) rfl _ (by rfl) (by assumption) zero_pol ?_; intro g0 w1 hR hbg0 hg0)
        have q0 := (hbg0.cell (p := ⟨b, fo + 0, none⟩) hblt).trans c0
        have q1 := (hbg0.cell (p := ⟨b, fo + 1, none⟩) hblt).trans c1
        have q2 := (hbg0.cell (p := ⟨b, fo + 2, none⟩) hblt).trans c2
        have q3 := (hbg0.cell (p := ⟨b, fo + 3, none⟩) hblt).trans c3
        have q4 := (hbg0.cell (p := ⟨b, fo + 4, none⟩) hblt).trans c4
        have q5 := (hbg0.cell (p := ⟨b, fo + 5, none⟩) hblt).trans c5
        go_wp2_with (first
          | (go_at_call_of 65 (Value.string ⟨#[40]⟩); refine (HIp.out _ hR.below).mono ?_; rintro e wip ⟨rfl, rfl⟩)
          | (go_at_call_of 65 (Value.string ⟨#[97, 108, 119, 97, 121, 115]⟩); refine (HIa.out _ hR.below).mono ?_; rintro e wia ⟨rfl, rfl⟩)
          | (go_at_call_of 65 (Value.string ⟨#[110, 111, 116]⟩); refine (HIn.out _ hR.below).mono ?_; rintro e win ⟨rfl, rfl⟩)
          | (refine wQ_store rfl _ _ _ (by rfl) (by exact hR) g0 rfl #[.int .i64 0, .int .i64 0, .string ⟨#[]⟩, .string ⟨#[]⟩, .slice none 0 0] (by rfl) _ _ _ (by repeat (first | exact Pick.here | apply Pick.there)) (by kernel_rfl) (by kernel_rfl) (by kernel_rfl) ?_; intro w2 hR hsm hsz))
        all_goals
          refine bodyPost_rws3 rfl hR g0 rfl _ _ (List.Mem.head _) _ Tryz.underlying24 rfl (by kernel_rfl) _ _ rfl rfl rfl (fun hbz => ?_)
          exact ⟨⟨_, _, _, _, _, _, _, _, rfl⟩, hbz⟩
      | false =>
        cases zq with
        | true => exact absurd ⟨rfl, rfl, rfl⟩ hne
        | false =>
          clear hne
          go_enter Tryz.func64, Tryz.ntmps64
          go_upto_region 1 with (refine wQ_alloc (cs := zP) rfl _ (by rfl) (by assumption) zero_pol ?_; intro g0 w1 hR hbg0 hg0)
          have q0 := (hbg0.cell (p := ⟨b, fo + 0, none⟩) hblt).trans c0
          have q1 := (hbg0.cell (p := ⟨b, fo + 1, none⟩) hblt).trans c1
          have q2 := (hbg0.cell (p := ⟨b, fo + 2, none⟩) hblt).trans c2
          have q3 := (hbg0.cell (p := ⟨b, fo + 3, none⟩) hblt).trans c3
          have q4 := (hbg0.cell (p := ⟨b, fo + 4, none⟩) hblt).trans c4
          have q5 := (hbg0.cell (p := ⟨b, fo + 5, none⟩) hblt).trans c5
          go_wp2_with (first
            | (go_at_call_of 65 (Value.string ⟨#[40]⟩); refine (HIp.out _ hR.below).mono ?_; rintro e wip ⟨rfl, rfl⟩)
            | (go_at_call_of 65 (Value.string ⟨#[97, 108, 119, 97, 121, 115]⟩); refine (HIa.out _ hR.below).mono ?_; rintro e wia ⟨rfl, rfl⟩)
            | (go_at_call_of 65 (Value.string ⟨#[110, 111, 116]⟩); refine (HIn.out _ hR.below).mono ?_; rintro e win ⟨rfl, rfl⟩)
            | (refine wQ_store rfl _ _ _ (by rfl) (by exact hR) g0 rfl #[.int .i64 0, .int .i64 0, .string ⟨#[]⟩, .string ⟨#[]⟩, .slice none 0 0] (by rfl) _ _ _ (by repeat (first | exact Pick.here | apply Pick.there)) (by kernel_rfl) (by kernel_rfl) (by kernel_rfl) ?_; intro w2 hR hsm hsz))
          all_goals
            refine bodyPost_rws3 rfl hR g0 rfl _ _ (List.Mem.head _) _ Tryz.underlying24 rfl (by kernel_rfl) _ _ rfl rfl rfl (fun hbz => ?_)
            exact ⟨⟨_, _, _, _, _, _, _, _, rfl⟩, hbz⟩
end Go.Proofs.YthpagppipifgeaaGreatDoor
/- ostiaryref20.single: a test. -/
namespace Go.Proofs.YthpagppipifgeaaGreatDoor
open Go.RowKit

theorem SlT.tail3 {w : World} {x y z : Tok} {r : List Tok} {b f c : Nat} (h : SlT w (x :: y :: z :: r) (some ⟨b, f, none⟩) c) : SlT w r (if c = 3 then some ⟨b, f, none⟩ else some ⟨b, f + 6, none⟩) (c - 3) := by
  obtain ⟨h1, h2, h5, b', f', h3, h4⟩ := h
  have h6 : r.length ≤ 1024 ∧ ∀ t, t ∈ r → t.1.length ≤ 1024 := ⟨by have := h5.1; simp only [List.length_cons] at this; omega, fun t ht => h5.2 t (by simp [ht])⟩
  rcases h3 with h3 | ⟨_, h0⟩
  · simp only [Option.some.injEq, Addr.mk.injEq, and_true] at h3
    obtain ⟨rfl, rfl⟩ := h3
    simp only [List.length_cons] at h1
    by_cases hc : c = 3
    · rw [if_pos hc]
      exact ⟨by omega, by omega, h6, b, f + 6, Or.inr ⟨rfl, by omega⟩, h4.2.2.2⟩
    · rw [if_neg hc]
      exact ⟨by omega, by omega, h6, b, f + 6, Or.inl rfl, h4.2.2.2⟩
  · simp at h0
set_option maxRecDepth 100000 in
set_option maxHeartbeats 16000000 in
theorem single_test (a bb t : List UInt8) (r : List Tok) (ad : Option Addr) (c : Nat) (w0 w : World) (hb0 : Below w0.heap.size w0 w) (hs0 : SlT w0 ((a, false) :: (bb, false) :: (t, true) :: r) ad c) (h1 : isT [40] ((a, false) :: (bb, false) :: (t, true) :: r) = false) (h2 : isT sAlways ((a, false) :: (bb, false) :: (t, true) :: r) = false) (h3 : isT sNot ((a, false) :: (bb, false) :: (t, true) :: r) = false) :
    Calls Tryz.prog 64 #[.slice ad ((a, false) :: (bb, false) :: (t, true) :: r).length c] w (PKq (testL ((a, false) :: (bb, false) :: (t, true) :: r)) w0 w) := by
  have hMX := MX_eq
  have hs := hs0.grown hb0
  obtain ⟨ans, hans⟩ : ∃ x, x = testL ((a, false) :: (bb, false) :: (t, true) :: r) := ⟨_, rfl⟩
  rw [← hans]
  have HIp : Hid (∀ u, Below w.heap.size w u → Calls Tryz.prog 65 #[.slice ad ((a, false) :: (bb, false) :: (t, true) :: r).length c, .string ⟨#[40]⟩] u fun e w' => e = .returned (.bool false) ∧ w' = u) := Lib.hid fun u hb => by rw [← h1]; exact is_any _ ad c ⟨#[40]⟩ u (hs.grown hb)
  have HIa : Hid (∀ u, Below w.heap.size w u → Calls Tryz.prog 65 #[.slice ad ((a, false) :: (bb, false) :: (t, true) :: r).length c, .string ⟨#[97, 108, 119, 97, 121, 115]⟩] u fun e w' => e = .returned (.bool false) ∧ w' = u) := Lib.hid fun u hb => by rw [← h2]; exact is_any _ ad c ⟨#[97, 108, 119, 97, 121, 115]⟩ u (hs.grown hb)
  have HIn : Hid (∀ u, Below w.heap.size w u → Calls Tryz.prog 65 #[.slice ad ((a, false) :: (bb, false) :: (t, true) :: r).length c, .string ⟨#[110, 111, 116]⟩] u fun e w' => e = .returned (.bool false) ∧ w' = u) := Lib.hid fun u hb => by rw [← h3]; exact is_any _ ad c ⟨#[110, 111, 116]⟩ u (hs.grown hb)
  have HNM : Hid (∀ (x : List UInt8) u, x.length ≤ 1024 → Calls Tryz.prog 51 #[.string (bs x)] u fun e w' => e = .returned (.bool (nameB (bs x))) ∧ w' = u) := Lib.hid fun x u hx => nameR_bs x u (by have := SB_eq; omega)
  have hR := Rws.start w
  obtain ⟨hle, hcm, hlns, b, fo, had, hrow⟩ := hs
  obtain rfl : ad = some ⟨b, fo, none⟩ := by rcases had with h | ⟨_, h⟩; exact h; simp at h
  obtain ⟨⟨c0, c1⟩, ⟨c2, c3⟩, ⟨c4, c5⟩, _⟩ := hrow
  have hblt := World.block_lt_of_cell? w _ c0
  have hL : ((a, false) :: (bb, false) :: (t, true) :: r : List Tok).length = r.length + 3 := rfl
  have HS0 := Lib.hid hs0
  rw [hL] at HIp HIa HIn hle ⊢
  have hL3 : ¬ ((r.length : Int) + 3) < 3 := by omega
  have hL0 : (0 : Int) < (r.length : Int) + 3 := by omega
  have hL1 : (1 : Int) < (r.length : Int) + 3 := by omega
  have hL2 : (2 : Int) < (r.length : Int) + 3 := by omega
  simp only at c0 c1 c2 c3 c4 c5
  have HANS := Lib.hid hans
  clear hs0 h1 h2 h3 had hL hans
  have haz := bs_size a
  have hal : a.length ≤ 1024 := hlns.2 (a, false) (by simp)
  go_enter Tryz.func64, Tryz.ntmps64
  go_upto_region 1 with (refine wQ_alloc (cs := zP) rfl _ (by rfl) (by exact hR) zero_pol ?_; intro g0 w1 hR hbg0 hg0)
  have q0 := (hR.below.cell (p := ⟨b, fo, none⟩) hblt).trans c0; have q1 := (hR.below.cell (p := ⟨b, fo + 1, none⟩) hblt).trans c1; have q2 := (hR.below.cell (p := ⟨b, fo + 2, none⟩) hblt).trans c2; have q3 := (hR.below.cell (p := ⟨b, fo + 3, none⟩) hblt).trans c3; have q4 := (hR.below.cell (p := ⟨b, fo + 4, none⟩) hblt).trans c4; have q5 := (hR.below.cell (p := ⟨b, fo + 5, none⟩) hblt).trans c5
  go_upto_region 14 with (first
    | (go_at_call_of 65 (Value.string ⟨#[40]⟩); refine (HIp.out _ hR.below).mono ?_; rintro e wip ⟨rfl, rfl⟩)
    | (go_at_call_of 65 (Value.string ⟨#[97, 108, 119, 97, 121, 115]⟩); refine (HIa.out _ hR.below).mono ?_; rintro e wia ⟨rfl, rfl⟩)
    | (go_at_call_of 65 (Value.string ⟨#[110, 111, 116]⟩); refine (HIn.out _ hR.below).mono ?_; rintro e win ⟨rfl, rfl⟩)
    | (refine wQ_alloc (cs := zP) rfl _ (by rfl) (by exact hR) zero_pol ?_; intro g11 w3 hR hbg11 hg11)
    | (refine wQ_store rfl _ _ _ (by rfl) (by exact hR) g11 rfl #[.int .i64 0, .int .i64 0, .string ⟨#[]⟩, .string (bs t), .slice none 0 0] (by rfl) _ _ _ (by repeat (first | exact Pick.here | apply Pick.there)) (by kernel_rfl) (by kernel_rfl) (by kernel_rfl) ?_; intro w4 hR hsm hsz))
  clear hsm hsz q1 q3 q5
  have q0 : _ = some _ := (hR.below.cell (p := ⟨b, fo, none⟩) hblt).trans c0; have q2 : _ = some _ := (hR.below.cell (p := ⟨b, fo + 2, none⟩) hblt).trans c2; have q4 : _ = some _ := (hR.below.cell (p := ⟨b, fo + 4, none⟩) hblt).trans c4
  have hx6 : (bs a).extract 0 6 = bs (a.take 6) := by rw [bs_cut, List.drop_zero]
  have hx5 : (bs a).extract 0 5 = bs (a.take 5) := by rw [bs_cut, List.drop_zero]
  have HD6 : Hid ((bs a).extract 6 a.length = bs (a.drop 6)) := Lib.hid (by rw [← bs_size]; exact drop_cut a 6)
  have HD5 : Hid ((bs a).extract 5 a.length = bs (a.drop 5)) := Lib.hid (by rw [← bs_size]; exact drop_cut a 5)
  have hLR := look_ref a
  have HLR := Lib.hid hLR
  clear hLR
  go_upto_block 1 with fail
  go_cut [] (fun wx => ∃ (o : Int) (n : List UInt8), lookS a = some (o, n) ∧ n.length ≤ 1024 ∧ Aside (Rws w.heap.size w wx [(g11, #[.int .i64 0, .int .i64 o, .string (bs n), .string (bs t), .slice none 0 0], 24), (g0, zP, 24)]))
  case first =>
    by_cases hm : a = sMethod
    · have hl : lookS a = some (0, []) := by rw [hm]; rfl
      have HL := Lib.hid hl
      have hq : ((bs a).toList == [109, 101, 116, 104, 111, 100]) = true := by rw [bs_list, hm]; rfl
      clear hl hm
      go_wp2_with fail
      go_meet
      exact ⟨0, [], HL.out, by simp, hR⟩
    have hq1 : ((bs a).toList == [109, 101, 116, 104, 111, 100]) = false := by rw [bs_list, beqL]; exact decide_eq_false hm
    by_cases hp : a = sPath
    · have hl : lookS a = some (1, []) := by rw [hp]; rfl
      have HL := Lib.hid hl
      have hq2 : ((bs a).toList == [112, 97, 116, 104]) = true := by rw [bs_list, hp]; rfl
      clear hl hm hp
      have u1 := hR.cellAt (g := g11) (List.Mem.head _) 1 rfl
      have v1 := hR.thaw (g := g11) (List.Mem.head _) 1
      have HR := Lib.hid (hR.setc 1 (.int .i64 1))
      go_wp2_with fail
      go_meet
      exact ⟨1, [], HL.out, by simp, HR.out⟩
    have hq2 : ((bs a).toList == [112, 97, 116, 104]) = false := by rw [bs_list, beqL]; exact decide_eq_false hp
    by_cases hc : a.take 6 = sClaim ++ [46] ∧ nameB (bs (a.drop 6)) = true
    · have hl : lookS a = some (2, a.drop 6) := by rw [HLR.out]; unfold refLook; rw [if_neg hm, if_neg hp, if_pos hc]
      have HL := Lib.hid hl
      obtain ⟨hc1, hc2⟩ := hc
      have h6 : ¬ a.length ≤ 6 := by
        intro h
        have : a.drop 6 = [] := List.drop_eq_nil_of_le h
        rw [this] at hc2
        exact absurd hc2 (by decide)
      have h6z : (6 : Int) < (bs a).size := by rw [haz]; omega
      have hq3 : ((bs (a.take 6)).toList == [99, 108, 97, 105, 109, 46]) = true := by rw [bs_list, hc1]; rfl
      have hnl : (a.drop 6).length ≤ 1024 := by rw [List.length_drop]; omega
      have HNL := Lib.hid hnl
      have HN6 : Hid (∀ u, Calls Tryz.prog 51 #[.string ((bs a).extract 6 a.length)] u fun e w' => e = .returned (.bool true) ∧ w' = u) := Lib.hid fun u => by have := HNM.out (a.drop 6) u hnl; rw [hc2] at this; rw [HD6.out]; exact this
      have u1 := hR.cellAt (g := g11) (List.Mem.head _) 1 rfl
      have v1 := hR.thaw (g := g11) (List.Mem.head _) 1
      have u2 := hR.cellAt (g := g11) (List.Mem.head _) 2 rfl
      have v2 := hR.thaw (g := g11) (List.Mem.head _) 2
      have HR := Lib.hid ((hR.setc 1 (.int .i64 2)).setc 2 (.string ((bs a).extract 6 a.length)))
      clear hl hm hp hc1 hc2 hnl
      go_wp2_with (go_at_call 51; refine (HN6.out _).mono ?_; rintro e w5 ⟨rfl, rfl⟩)
      go_meet
      exact ⟨2, a.drop 6, HL.out, HNL.out, by rw [← HD6.out]; exact HR.out⟩
    go_upto_region 19 with fail
    go_cut [95] (fun s95 wx => s95 = .bool false ∧ Rws w.heap.size w wx [(g11, #[.int .i64 0, .int .i64 0, .string ⟨#[]⟩, .string (bs t), .slice none 0 0], 24), (g0, zP, 24)])
    case first =>
      by_cases h6 : a.length ≤ 6
      · have h6z : ¬ (6 : Int) < (bs a).size := by rw [haz]; omega
        go_wp2_with fail
        go_meet
        exact ⟨rfl, hR⟩
      have h6z : (6 : Int) < (bs a).size := by rw [haz]; omega
      by_cases h1 : a.take 6 = sClaim ++ [46]
      · have hq3 : ((bs (a.take 6)).toList == [99, 108, 97, 105, 109, 46]) = true := by rw [bs_list, h1]; rfl
        have h3 : nameB (bs (a.drop 6)) = false := by
          cases h : nameB (bs (a.drop 6))
          · rfl
          · exact absurd ⟨h1, h⟩ hc
        have HN6 : Hid (∀ u, Calls Tryz.prog 51 #[.string ((bs a).extract 6 a.length)] u fun e w' => e = .returned (.bool false) ∧ w' = u) := Lib.hid fun u => by have := HNM.out (a.drop 6) u (by rw [List.length_drop]; omega); rw [h3] at this; rw [HD6.out]; exact this
        clear h1 h3
        go_wp2_with (go_at_call 51; refine (HN6.out _).mono ?_; rintro e w5 ⟨rfl, rfl⟩)
        go_meet
        exact ⟨rfl, hR⟩
      · have hq3 : ((bs (a.take 6)).toList == [99, 108, 97, 105, 109, 46]) = false := by rw [bs_list, beqL]; exact decide_eq_false h1
        go_wp2_with fail
        go_meet
        exact ⟨rfl, hR⟩
    case rest =>
    obtain ⟨rfl, hR⟩ := hcut
    by_cases ht : a.take 5 = sCert ++ [46] ∧ nameB (bs (a.drop 5)) = true
    · have hl : lookS a = some (3, a.drop 5) := by rw [HLR.out]; unfold refLook; rw [if_neg hm, if_neg hp, if_neg hc, if_pos ht]
      have HL := Lib.hid hl
      obtain ⟨hc1, hc2⟩ := ht
      have h6 : ¬ a.length ≤ 5 := by
        intro h
        have : a.drop 5 = [] := List.drop_eq_nil_of_le h
        rw [this] at hc2
        exact absurd hc2 (by decide)
      have h6z : (5 : Int) < (bs a).size := by rw [haz]; omega
      have hq3 : ((bs (a.take 5)).toList == [99, 101, 114, 116, 46]) = true := by rw [bs_list, hc1]; rfl
      have hnl : (a.drop 5).length ≤ 1024 := by rw [List.length_drop]; omega
      have HNL := Lib.hid hnl
      have HN6 : Hid (∀ u, Calls Tryz.prog 51 #[.string ((bs a).extract 5 a.length)] u fun e w' => e = .returned (.bool true) ∧ w' = u) := Lib.hid fun u => by have := HNM.out (a.drop 5) u hnl; rw [hc2] at this; rw [HD5.out]; exact this
      have u1 := hR.cellAt (g := g11) (List.Mem.head _) 1 rfl
      have v1 := hR.thaw (g := g11) (List.Mem.head _) 1
      have u2 := hR.cellAt (g := g11) (List.Mem.head _) 2 rfl
      have v2 := hR.thaw (g := g11) (List.Mem.head _) 2
      have HR := Lib.hid ((hR.setc 1 (.int .i64 3)).setc 2 (.string ((bs a).extract 5 a.length)))
      clear hl hm hp hc1 hc2 hnl hc
      go_wp2_with (go_at_call 51; refine (HN6.out _).mono ?_; rintro e w5 ⟨rfl, rfl⟩)
      go_meet
      exact ⟨3, a.drop 5, HL.out, HNL.out, by rw [← HD5.out]; exact HR.out⟩
    have hl : lookS a = none := by rw [HLR.out]; unfold refLook; rw [if_neg hm, if_neg hp, if_neg hc, if_neg ht]
    have HL := Lib.hid hl
    clear hl
    go_upto_region 22 with fail
    go_cut [113] (fun s113 wx => s113 = .bool false ∧ Rws w.heap.size w wx [(g11, #[.int .i64 0, .int .i64 0, .string ⟨#[]⟩, .string (bs t), .slice none 0 0], 24), (g0, zP, 24)])
    case first =>
      by_cases h6 : a.length ≤ 5
      · have h6z : ¬ (5 : Int) < (bs a).size := by rw [haz]; omega
        go_wp2_with fail
        go_meet
        exact ⟨rfl, hR⟩
      have h6z : (5 : Int) < (bs a).size := by rw [haz]; omega
      by_cases h1 : a.take 5 = sCert ++ [46]
      · have hq3 : ((bs (a.take 5)).toList == [99, 101, 114, 116, 46]) = true := by rw [bs_list, h1]; rfl
        have h3 : nameB (bs (a.drop 5)) = false := by
          cases h : nameB (bs (a.drop 5))
          · rfl
          · exact absurd ⟨h1, h⟩ ht
        have HN6 : Hid (∀ u, Calls Tryz.prog 51 #[.string ((bs a).extract 5 a.length)] u fun e w' => e = .returned (.bool false) ∧ w' = u) := Lib.hid fun u => by have := HNM.out (a.drop 5) u (by rw [List.length_drop]; omega); rw [h3] at this; rw [HD5.out]; exact this
        clear h1 h3
        go_wp2_with (go_at_call 51; refine (HN6.out _).mono ?_; rintro e w5 ⟨rfl, rfl⟩)
        go_meet
        exact ⟨rfl, hR⟩
      · have hq3 : ((bs (a.take 5)).toList == [99, 101, 114, 116, 46]) = false := by rw [bs_list, beqL]; exact decide_eq_false h1
        go_wp2_with fail
        go_meet
        exact ⟨rfl, hR⟩
    case rest =>
    obtain ⟨rfl, hR⟩ := hcut
    clear hm hp hc ht hq1 hq2
    have HA2 : Hid (ans = none) := Lib.hid (by rw [HANS.out]; exact testL_look HL.out _)
    go_wp2_with (refine wQ_store rfl _ _ _ (by rfl) (by exact hR) g0 rfl #[.int .i64 0, .int .i64 0, .string ⟨#[]⟩, .string ⟨#[]⟩, .slice none 0 0] (by rfl) _ _ _ (by repeat (first | exact Pick.here | apply Pick.there)) (by kernel_rfl) (by kernel_rfl) (by kernel_rfl) ?_; intro w5 hR hsmx hszx)
    refine bodyPost_rws3 rfl hR g0 rfl _ _ (List.Mem.head _) _ Tryz.underlying24 rfl (by kernel_rfl) _ _ rfl rfl rfl (fun hbz => ?_)
    rw [HA2.out]
    exact ⟨⟨_, _, _, _, _, _, _, _, rfl⟩, hbz⟩
  case rest =>
  obtain ⟨o, n, hlo, hnl, hA⟩ := hcut
  have hR := hA
  unfold Aside at hR
  have HLO := Lib.hid hlo
  clear hA hlo HLR hx6 hx5 HD6 HD5 HNM
  have q2 := (hR.below.cell (p := ⟨b, fo + 2, none⟩) hblt).trans c2
  go_upto_block 2 with fail
  go_cut [] (fun wx => ∃ (k : Int), opW bb = some k ∧ Aside (Rws w.heap.size w wx [(g11, #[.int .i64 k, .int .i64 o, .string (bs n), .string (bs t), .slice none 0 0], 24), (g0, zP, 24)]))
  case first =>
    by_cases b1 : bb = sIs
    · have hl : opW bb = some 4 := by unfold opW; rw [if_pos b1]
      have HL := Lib.hid hl
      have hz1 : ((bs bb).toList == [105, 115]) = true := by rw [bs_list, b1]; rfl
      clear hl b1
      have u0 := hR.cellAt (g := g11) (List.Mem.head _) 0 rfl
      have v0 := hR.thaw (g := g11) (List.Mem.head _) 0
      have HR := Lib.hid (hR.setc 0 (.int .i64 4))
      go_wp2_with fail
      go_meet
      exact ⟨4, HL.out, HR.out⟩
    have hz1 : ((bs bb).toList == [105, 115]) = false := by rw [bs_list, beqL]; exact decide_eq_false b1
    by_cases b2 : bb = sBegins
    · have hl : opW bb = some 5 := by unfold opW; rw [if_neg b1, if_pos b2]
      have HL := Lib.hid hl
      have hz2 : ((bs bb).toList == [98, 101, 103, 105, 110, 115]) = true := by rw [bs_list, b2]; rfl
      clear hl b1 b2
      have u0 := hR.cellAt (g := g11) (List.Mem.head _) 0 rfl
      have v0 := hR.thaw (g := g11) (List.Mem.head _) 0
      have HR := Lib.hid (hR.setc 0 (.int .i64 5))
      go_wp2_with fail
      go_meet
      exact ⟨5, HL.out, HR.out⟩
    have hz2 : ((bs bb).toList == [98, 101, 103, 105, 110, 115]) = false := by rw [bs_list, beqL]; exact decide_eq_false b2
    by_cases b3 : bb = sHas
    · have hl : opW bb = some 6 := by unfold opW; rw [if_neg b1, if_neg b2, if_pos b3]
      have HL := Lib.hid hl
      have hz3 : ((bs bb).toList == [104, 97, 115]) = true := by rw [bs_list, b3]; rfl
      clear hl b1 b2 b3
      have u0 := hR.cellAt (g := g11) (List.Mem.head _) 0 rfl
      have v0 := hR.thaw (g := g11) (List.Mem.head _) 0
      have HR := Lib.hid (hR.setc 0 (.int .i64 6))
      go_wp2_with fail
      go_meet
      exact ⟨6, HL.out, HR.out⟩
    have hz3 : ((bs bb).toList == [104, 97, 115]) = false := by rw [bs_list, beqL]; exact decide_eq_false b3
    have hl : opW bb = none := by unfold opW; rw [if_neg b1, if_neg b2, if_neg b3]
    have HA2 : Hid (ans = none) := Lib.hid (by rw [HANS.out]; exact testL_op (fun b h => by simp only [List.head?_cons, Option.some.injEq, Prod.mk.injEq, and_true] at h; rw [← h]; exact hl))
    clear hl b1 b2 b3
    go_wp2_with (refine wQ_store rfl _ _ _ (by rfl) (by exact hR) g0 rfl #[.int .i64 0, .int .i64 0, .string ⟨#[]⟩, .string ⟨#[]⟩, .slice none 0 0] (by rfl) _ _ _ (by repeat (first | exact Pick.here | apply Pick.there)) (by kernel_rfl) (by kernel_rfl) (by kernel_rfl) ?_; intro w5 hR hsmx hszx)
    refine bodyPost_rws3 rfl hR g0 rfl _ _ (List.Mem.head _) _ Tryz.underlying24 rfl (by kernel_rfl) _ _ rfl rfl rfl (fun hbz => ?_)
    rw [HA2.out]
    exact ⟨⟨_, _, _, _, _, _, _, _, rfl⟩, hbz⟩
  case rest =>
  obtain ⟨k, hop, hA⟩ := hcut
  have hR := hA
  unfold Aside at hR
  have HA2 : Hid (ans = some (⟨k, o, bs n, bs t, .nil⟩, r)) := Lib.hid (by rw [HANS.out]; unfold testL; simp only [HLO.out, hop])
  have htl : t.length ≤ 1024 := hlns.2 (t, true) (by simp)
  obtain ⟨A, hAA, hT⟩ : ∃ A, A = (if c = 3 then some ⟨b, fo, none⟩ else some ⟨b, fo + 6, none⟩) ∧ SlT w0 r A (c - 3) := ⟨_, rfl, HS0.out.tail3⟩
  have HT := Lib.hid hT
  have hAc : (c = 3 ∧ A = some ⟨b, fo, none⟩) ∨ (¬ c = 3 ∧ A = some ⟨b, fo + 6, none⟩) := by
    by_cases h : c = 3
    · left; exact ⟨h, by rw [hAA, if_pos h]⟩
    · right; exact ⟨h, by rw [hAA, if_neg h]⟩
  have HB : Hid ((bs n).size ≤ SB ∧ (bs t).size ≤ SB) := Lib.hid ⟨by rw [bs_size, SB_eq]; omega, by rw [bs_size, SB_eq]; omega⟩
  have hlz : (3 : Int) ≤ (r.length : Int) + 3 := by omega
  clear hA hAA hT hop hlns
  go_upto_region 33 with fail
  have x0 := hR.cellAt (g := g0) (by repeat (first | exact List.Mem.head _ | refine List.Mem.tail _ ?_)) 0 rfl; have t0 := hR.thaw (g := g0) (by repeat (first | exact List.Mem.head _ | refine List.Mem.tail _ ?_)) 0; have y0 := hR.cellAt (g := g11) (List.Mem.head _) 0 rfl; have x1 := hR.cellAt (g := g0) (by repeat (first | exact List.Mem.head _ | refine List.Mem.tail _ ?_)) 1 rfl; have t1 := hR.thaw (g := g0) (by repeat (first | exact List.Mem.head _ | refine List.Mem.tail _ ?_)) 1; have y1 := hR.cellAt (g := g11) (List.Mem.head _) 1 rfl; have x2 := hR.cellAt (g := g0) (by repeat (first | exact List.Mem.head _ | refine List.Mem.tail _ ?_)) 2 rfl; have t2 := hR.thaw (g := g0) (by repeat (first | exact List.Mem.head _ | refine List.Mem.tail _ ?_)) 2; have y2 := hR.cellAt (g := g11) (List.Mem.head _) 2 rfl; have x3 := hR.cellAt (g := g0) (by repeat (first | exact List.Mem.head _ | refine List.Mem.tail _ ?_)) 3 rfl; have t3 := hR.thaw (g := g0) (by repeat (first | exact List.Mem.head _ | refine List.Mem.tail _ ?_)) 3; have y3 := hR.cellAt (g := g11) (List.Mem.head _) 3 rfl; have x4 := hR.cellAt (g := g0) (by repeat (first | exact List.Mem.head _ | refine List.Mem.tail _ ?_)) 4 rfl; have t4 := hR.thaw (g := g0) (by repeat (first | exact List.Mem.head _ | refine List.Mem.tail _ ?_)) 4; have y4 := hR.cellAt (g := g11) (List.Mem.head _) 4 rfl
  have hR3 := (((((hR.swap.drew.setc 0 (.int .i64 k)).setc 1 (.int .i64 o)).setc 2 (.string (bs n))).setc 3 (.string (bs t))).setc 4 (.slice none 0 0))
  have HR3 := Lib.hid hR3
  clear hR3
  rcases hAc with ⟨rfl, rfl⟩ | ⟨hc1, rfl⟩
  · obtain rfl : r = [] := List.eq_nil_of_length_eq_zero (by omega)
    go_region
    all_goals
      go_wp2_with fail
      refine bodyPost_rws3 rfl HR3.out g0 rfl _ _ (List.Mem.head _) _ Tryz.underlying24 rfl (by kernel_rfl) _ _ rfl rfl rfl (fun hbz => ?_)
      rw [HA2.out]
      exact ⟨⟨none, 0, _, _, rfl, SlQ.nil _ _, HT.out⟩, HB.out.1, HB.out.2, hbz⟩
  · go_region
    all_goals
      go_wp2_with fail
      refine bodyPost_rws3 rfl HR3.out g0 rfl _ _ (List.Mem.head _) _ Tryz.underlying24 rfl (by kernel_rfl) _ _ rfl rfl rfl (fun hbz => ?_)
      rw [HA2.out]
      exact ⟨⟨none, 0, _, _, rfl, SlQ.nil _ _, HT.out⟩, HB.out.1, HB.out.2, hbz⟩
end Go.Proofs.YthpagppipifgeaaGreatDoor
