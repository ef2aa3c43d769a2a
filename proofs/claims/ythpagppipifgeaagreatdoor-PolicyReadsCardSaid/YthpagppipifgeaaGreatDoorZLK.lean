/- LRefM0 LRefM1, in one text. -/
import Derived.Test.YthpagppipifgeaaGreatDoorZLM
import Derived.Test.YthpagppipifgeaaGreatDoorZLL
/- ostiaryref20.many: the walk, for 'and'. -/
namespace Go.Proofs.YthpagppipifgeaaGreatDoor
open Go.RowKit

set_option maxRecDepth 100000 in
set_option maxHeartbeats 16000000 in
theorem many0_any (F : Nat) (hp : ∀ g, g ≤ F → SingleAt g) : ManyAt (F + 1) 0 := by
  intro ts ad c w0 w hF hb0 hs0
  have hMX := MX_eq
  have HP : Hid (∀ g s ra rc u, g ≤ F → 4 * s.length + 1 ≤ g → SlT w0 s ra rc → Below w.heap.size w u → Calls Tryz.prog 64 #[.slice ra s.length rc] u (PKq (parseL g 0 s) w0 u)) := Lib.hid fun g s ra rc u hg hl hs hb => hp g hg s ra rc w0 u (by omega) (hb0.trans (hb.mono hb0.size)) hs
  have HI : Hid (∀ s ra rc u, SlT w0 s ra rc → Below w.heap.size w u → Calls Tryz.prog 65 #[.slice ra s.length rc, .string ⟨#[97, 110, 100]⟩] u fun e w' => e = .returned (.bool (isT (wOf 0) s)) ∧ w' = u) := Lib.hid fun s ra rc u hs hb => is_any s ra rc ⟨#[97, 110, 100]⟩ u (hs.grown (hb0.trans (hb.mono hb0.size)))
  have hl0 := hs0.ln.1
  rw [show kOf 0 = 2 from rfl, parseL_many]
  have HS0 := Lib.hid hs0
  have hR := Rws.start w
  clear hp hs0
  go_enter Tryz.func37, Tryz.ntmps37
  go_upto_region 1 with (refine wQ_alloc (cs := zP) rfl _ (by rfl) (by exact hR) zero_pol ?_; intro g0 w1 hR hbg0 hg0)
  go_upto_region 2 with fail
  have hw1 := hbg0.size
  have hg0l : g0 < w1.heap.size := hR.lt (List.Mem.head _)
  have hRA := hR.alloc0 (.cells #[] 24)
  have hown0 : (w1.alloc (.cells #[] 24)).ownsRow w.heap.size 24 5 (.slice (some ⟨w1.heap.size, 0, none⟩) 0 0) 0 [] :=
    ⟨rfl, .inr ⟨w1.heap.size, 0, #[], rfl, hw1, heap_alloc_new _ _, Nat.le_refl _, by decide, rfl, rfl⟩⟩
  have hn0 : g0 ≠ w1.heap.size := by omega
  go_loopg [0, 7] F (fun gg s0 s7 wr => ∃ (f : Nat) (acc : Fo) (s : List Tok) (ra : Option Addr) (rc : Nat) (xs : List Value) (gl cap : Nat),
    gg = f ∧ s0 = .slice ra s.length rc ∧ s7 = .slice (some ⟨gl, 0, none⟩) acc.len cap ∧ Aside (manyR f 0 acc s = manyR F 0 .nil ts) ∧ 4 * s.length + 1 ≤ f ∧ f ≤ F ∧ acc.len + s.length ≤ 1024
    ∧ Aside (SlT w0 s ra rc) ∧ Aside (Rws w.heap.size w wr [(g0, zP, 24)])
    ∧ Aside (wr.ownsRow w.heap.size 24 5 (.slice (some ⟨gl, 0, none⟩) acc.len cap) acc.len xs) ∧ Aside (Chk (fun k => w.heap.size ≤ k ∧ k ≠ g0 ∧ k ≠ gl) wr acc xs)
    ∧ Aside (g0 ≠ gl))
  case atStart =>
    exact ⟨F, .nil, ts, ad, c, [], w1.heap.size, 0, rfl, rfl, rfl, rfl, by omega, Nat.le_refl _, by show 0 + _ ≤ _; omega, HS0.out, hRA, hown0, rfl, hn0⟩
  case round =>
    obtain ⟨f, acc, s, ra, rc, xs, gl, cap, rfl, rfl, rfl, HA, hfu, hfF, hac, HS, HR, HO, HCK, HNB⟩ := hrel
    have hR := HR.out
    have hR0lt : g0 < wr.heap.size := hR.lt (List.Mem.head _)
    obtain ⟨f', rfl⟩ : ∃ f', gk = f' + 1 := ⟨gk - 1, by omega⟩
    clear HR hRA hown0 hn0
    cases hr : parseL (f' + 1) 0 s with
    | none =>
      have HL := Lib.hid (HA.out.symm.trans (manyR_none hr))
      go_wp2_with (first
        | (refine wQ_alloc (cs := zP) rfl _ (by rfl) (by exact hR) zero_pol ?_; intro g8 w3 hR hbg8 hg8)
        | (go_at_call 64; refine (HP.out _ _ _ _ _ hfF hfu HS.out hR.below).mono ?_; rw [hr]; rintro e w5 ⟨⟨k, o, n, t, ad2, l, c2, rs, rfl⟩, hb5⟩; have hR := hR.call hb5)
        | (refine wQ_store rfl _ _ _ (by rfl) (by exact hR) g8 rfl #[.int .i64 k, .int .i64 o, .string n, .string t, .slice ad2 l c2] (by rfl) _ _ _ (by repeat (first | exact Pick.here | apply Pick.there)) (by kernel_rfl) (by kernel_rfl) (by kernel_rfl) ?_; intro w6 hR hsm hsz)
        | (refine wQ_store rfl _ _ _ (by rfl) (by exact hR) g0 rfl #[.int .i64 0, .int .i64 0, .string ⟨#[]⟩, .string ⟨#[]⟩, .slice none 0 0] (by rfl) _ _ _ (by repeat (first | exact Pick.here | apply Pick.there)) (by kernel_rfl) (by kernel_rfl) (by kernel_rfl) ?_; intro w7 hR hsmx hszx))
      refine bodyPost_rws3 rfl hR g0 rfl _ _ (List.Mem.head _) _ Tryz.underlying24 rfl (by kernel_rfl) _ _ rfl rfl rfl (fun hbz => ?_)
      rw [HL.out]
      exact ⟨⟨_, _, _, _, _, _, _, _, rfl⟩, hbz⟩
    | some pr =>
      obtain ⟨p, r⟩ := pr
      have hlen := parseL_len hr
      have HHR := Lib.hid hr
      go_upto_region 9 with (first
        | (refine wQ_alloc (cs := zP) rfl _ (by rfl) (by exact hR) zero_pol ?_; intro g8 w3 hR hbg8 hg8; have hg8l : g8 < w3.heap.size := hR.lt (List.Mem.head _))
        | (go_at_call 64; refine (HP.out _ _ _ _ _ hfF hfu HS.out hR.below).mono ?_; rw [hr]; rintro e w5 ⟨⟨a2, c2, ra2, rc2, rfl, hsl, hst⟩, hpn, hpt, hb5⟩; have hR := hR.call hb5)
        | (refine wQ_store rfl _ _ _ (by rfl) (by exact hR) g8 rfl #[.int .i64 p.k, .int .i64 p.o, .string p.n, .string p.t, .slice a2 p.kids.len c2] (by rfl) _ _ _ (by repeat (first | exact Pick.here | apply Pick.there)) (by kernel_rfl) (by kernel_rfl) (by kernel_rfl) ?_; intro w7 hR hsm hsz))
      have hz3 := hbg8.size
      have hz5 := hb5.size
      have hgll : gl < wr.heap.size := (HO.out.lt gl rfl).2
      have hglB : w.heap.size ≤ gl := (HO.out.lt gl rfl).1
      have hg0r : g0 < wr.heap.size := hR0lt
      have hwr7 : wr.heap.size ≤ w7.heap.size := by omega
      have hB7 : w.heap.size ≤ w7.heap.size := hR.len
      have hsame7 : ∀ k, k < wr.heap.size → w7.heap[k]? = wr.heap[k]? := fun k hlt => ((hsm k (by omega)).trans (hb5.block k (by omega))).trans (hbg8.block k hlt)
      have hown7 : w7.ownsRow w.heap.size 24 5 (.slice (some ⟨gl, 0, none⟩) acc.len cap) acc.len xs := by
        obtain ⟨hxl, ⟨hv0, _⟩ | ⟨gv, capv, cur, hv, hgB, hgh, rest⟩⟩ := HO.out
        · cases hv0
        · exact ⟨hxl, .inr ⟨gv, capv, cur, hv, hgB, (hsame7 gv (Array.getElem?_eq_some_iff.1 hgh).1).trans hgh, rest⟩⟩
      have hchk7 : Chk (fun k => (w.heap.size ≤ k ∧ k ≠ g0 ∧ k ≠ gl) ∧ k < w7.heap.size) w7 acc xs := HCK.out.same (fun k hk hlt => ⟨hk, by omega⟩) (fun k _ hlt => hsame7 k hlt)
      have hsl7 : SlQ (fun k => (w.heap.size ≤ k ∧ k ≠ g0 ∧ k ≠ gl) ∧ k < w7.heap.size) w7 p.kids a2 c2 := hsl.same (fun k hk hlt => ⟨⟨by omega, by omega, by omega⟩, by omega⟩) (fun k hk hlt => hsm k (by omega))
      have hlen5 := hchk7.len
      have HR7 := Lib.hid hR
      have HST := Lib.hid hst
      clear hsm hsz hsl hsame7 hst
      obtain ⟨i0, hi, hz0, hz1, hz2⟩ := info_parts info_pol
      go_wp2_with (first
        | (refine wpList_load_rws rfl _ _ (by rfl) (by assumption) _ rfl _ _ (by repeat (first | exact List.Mem.head _ | refine List.Mem.tail _ ?_)) _ Tryz.underlying24 rfl (by kernel_rfl) ?_)
        | (at_builtin; refine wpList_app2 rfl _ _ 22 rfl 24 i0 (.agg zP) 5 72 Tryz.underlying22 hi hz0 hz1 hz2 rfl w.heap.size gl acc.len cap xs rfl (hown7.alloc _) ⟨w7.heap.size, 0, none⟩ 1 (pcl p a2 c2) rfl rfl ?c1 ?c2 (by omega) (by omega) ?c3 ?_))
      case c1 =>
        intro j u hj
        have h2 := new_cell (w := w7) rfl #[.int .i64 p.k, .int .i64 p.o, .string p.n, .string p.t, .slice a2 p.kids.len c2] 24 j (v := u) (by rw [← hj]; simp [pcl])
        rw [add_z]
        exact h2
      case c2 => intro u hu; simp [pcl] at hu; rcases hu with rfl | rfl | rfl | rfl | rfl <;> rfl
      case c3 => simp; omega
      intro g' cap' w10 hown10 hgr hg'
      have hsame10 : ∀ k, k ≠ gl → k < w7.heap.size → w10.heap[k]? = w7.heap[k]? := fun k hn hk =>
        (hgr.block k (by simp; omega) (fun e => hn (Option.some.inj e))).trans ((b_alloc w7 _).block k hk)
      have hR := ((HR7.out.sub (List.Sublist.cons _ (List.Sublist.refl _))).alloc0 (.cells #[.int .i64 p.k, .int .i64 p.o, .string p.n, .string p.t, .slice a2 p.kids.len c2] 24)).grown hgr hglB (by
        intro x hx
        rcases List.mem_cons.1 hx with rfl | hx
        · exact HNB.out
        · cases hx)
      have hA7 : (w7.alloc (.cells #[.int .i64 p.k, .int .i64 p.o, .string p.n, .string p.t, .slice a2 p.kids.len c2] 24)).heap.size = w7.heap.size + 1 := by simp
      have hown11 : w10.ownsRow w.heap.size 24 5 (.slice (some ⟨g', 0, none⟩) (acc.snoc p).len cap') (acc.snoc p).len (xs ++ pcl p a2 c2) := by rw [Fo.snoc_len]; exact hown10
      have hsl10 : SlQ (fun k => w.heap.size ≤ k ∧ k ≠ g0 ∧ k ≠ g') w10 p.kids a2 c2 := hsl7.same (fun k hk hlt => ⟨hk.1.1, hk.1.2.1, by rcases hg' with rfl | rfl; exact hk.1.2.2; omega⟩) (fun k hk hlt => hsame10 k hk.1.2.2 hlt)
      have hchk10 : Chk (fun k => w.heap.size ≤ k ∧ k ≠ g0 ∧ k ≠ g') w10 acc xs := hchk7.same (fun k hk hlt => ⟨hk.1.1, hk.1.2.1, by rcases hg' with rfl | rfl; exact hk.1.2.2; omega⟩) (fun k hk hlt => hsame10 k hk.1.2.2 hlt)
      have hchk11 := Chk.snoc hpn hpt hsl10 hchk10
      have hnb : g0 ≠ g' := by rcases hg' with rfl | rfl; exact HNB.out; omega
      have hg'B : w.heap.size ≤ g' := by rcases hg' with rfl | rfl; exact hglB; omega
      have hsn := Fo.snoc_len acc p
      have HALL : Hid (_ ∧ _ ∧ _ ∧ _) := Lib.hid ⟨hown11, hchk11, hnb, hsl10⟩
      have HSN := Lib.hid hsn
      have HCK0 : Hid (acc.len = 0 → xs = []) := Lib.hid (fun h => List.eq_nil_of_length_eq_zero (by omega))
      have HIr0 : Hid (∀ u, Below w.heap.size w u → Calls Tryz.prog 65 #[.slice ra2 r.length rc2, .string ⟨#[97, 110, 100]⟩] u fun e w' => e = .returned (.bool (isT (wOf 0) r)) ∧ w' = u) := Lib.hid fun u hb => HI.out r ra2 rc2 u HST.out hb
      clear hown11 hchk11 hsl10 hown10 hgr hg' hsame10 hA7 hchk10 hown7 hchk7 hsl7 hlen5 hi hz0 hz1 hz2 hr HNB HCK HO HR7 hbg8 hb5 hgll hg0r hwr7 hB7 hz3 hz5 HS hsn
      go_upto_region 10 with fail
      cases hi : isT (wOf 0) r with
      | true =>
        have HL := Lib.hid ((manyR_more (acc := acc) HHR.out hi).symm.trans HA.out)
        have HIr : Hid (∀ u, Below w.heap.size w u → Calls Tryz.prog 65 #[.slice ra2 r.length rc2, .string ⟨#[97, 110, 100]⟩] u fun e w' => e = .returned (.bool true) ∧ w' = u) := Lib.hid fun u hb => by rw [← hi]; exact HIr0.out u hb
        obtain ⟨r3, rfl⟩ := isT_head hi
        rw [List.tail_cons] at HL
        obtain ⟨b, fo, had, _⟩ := HST.out.at_
        have hle := HST.out.le
        have hcm := HST.out.cm
        obtain rfl : ra2 = some ⟨b, fo, none⟩ := by rcases had with h | ⟨_, h⟩; exact h; simp at h
        obtain ⟨A, hAA, hT⟩ : ∃ A, A = (if rc2 = 1 then some ⟨b, fo, none⟩ else some ⟨b, fo + 2, none⟩) ∧ SlT w0 r3 A (rc2 - 1) := ⟨_, rfl, HST.out.tail⟩
        have hln : ((wOf 0, false) :: r3 : List Tok).length = r3.length + 1 := rfl
        rw [hln] at HIr hle hlen ⊢
        have HT := Lib.hid hT
        have hlz : (1 : Int) ≤ (r3.length : Int) + 1 := by omega
        have hAc : (rc2 = 1 ∧ A = some ⟨b, fo, none⟩) ∨ (¬ rc2 = 1 ∧ A = some ⟨b, fo + 2, none⟩) := by
          by_cases h : rc2 = 1
          · left; exact ⟨h, by rw [hAA, if_pos h]⟩
          · right; exact ⟨h, by rw [hAA, if_neg h]⟩
        have HZZ : Hid ((4 * r3.length + 1 ≤ f' ∧ f' ≤ F) ∧ (acc.snoc p).len + r3.length ≤ 1024) := Lib.hid ⟨⟨by omega, by omega⟩, by have := HSN.out; omega⟩
        clear had hAA hT hln hi HIr0 HST hpn hpt HHR HA
        rcases hAc with ⟨rfl, rfl⟩ | ⟨hc1, rfl⟩
        · obtain rfl : r3 = [] := List.eq_nil_of_length_eq_zero (by omega)
          go_wp2_with (go_at_call_of 65 (Value.string ⟨#[97, 110, 100]⟩); refine (HIr.out _ hR.below).mono ?_; rintro e wic ⟨rfl, rfl⟩)
          go_roundg f'
          case measure => omega
          case rel =>
            obtain ⟨⟨z1, z2⟩, z3⟩ := HZZ.out
            obtain ⟨y1, y2, y3, y4⟩ := HALL.out
            exact ⟨f', acc.snoc p, [], _, _, xs ++ pcl p a2 c2, g', cap', rfl, rfl, by rw [HSN.out], HL.out, z1, z2, z3, HT.out, hR, y1, y2, y3⟩
        · go_wp2_with (go_at_call_of 65 (Value.string ⟨#[97, 110, 100]⟩); refine (HIr.out _ hR.below).mono ?_; rintro e wic ⟨rfl, rfl⟩)
          go_roundg f'
          case measure => omega
          case rel =>
            obtain ⟨⟨z1, z2⟩, z3⟩ := HZZ.out
            obtain ⟨y1, y2, y3, y4⟩ := HALL.out
            exact ⟨f', acc.snoc p, r3, _, _, xs ++ pcl p a2 c2, g', cap', rfl, rfl, by rw [HSN.out], HL.out, z1, z2, z3, HT.out, hR, y1, y2, y3⟩
      | false =>
        have HL := Lib.hid (HA.out.symm.trans (manyR_end (acc := acc) HHR.out hi))
        have HIr : Hid (∀ u, Below w.heap.size w u → Calls Tryz.prog 65 #[.slice ra2 r.length rc2, .string ⟨#[97, 110, 100]⟩] u fun e w' => e = .returned (.bool false) ∧ w' = u) := Lib.hid fun u hb => by rw [← hi]; exact HIr0.out u hb
        clear hi HIr0 HHR HA
        by_cases hone : acc.len = 0
        · have hfin : finP 0 (acc.snoc p) p = p := by unfold finP; rw [if_pos (by rw [HSN.out]; omega)]
          have HFN := Lib.hid hfin
          have hxs := HCK0.out hone
          have hoz : (((acc.len : Int) + 1) == 1) = true := by rw [hone]; rfl
          clear hfin HCK0
          subst hxs
          go_upto_region 13 with (go_at_call_of 65 (Value.string ⟨#[97, 110, 100]⟩); refine (HIr.out _ hR.below).mono ?_; rintro e wic ⟨rfl, rfl⟩)
          have hcl := World.ownsRow.cells HALL.out.1 (g := g') rfl
          have y0 : wic.cell? ⟨g', 0, none⟩ = some (.int .i64 p.k) := hcl 0 _ rfl; have y1 : wic.cell? ⟨g', 1, none⟩ = some (.int .i64 p.o) := hcl 1 _ rfl; have y2 : wic.cell? ⟨g', 2, none⟩ = some (.string p.n) := hcl 2 _ rfl; have y3 : wic.cell? ⟨g', 3, none⟩ = some (.string p.t) := hcl 3 _ rfl; have y4 : wic.cell? ⟨g', 4, none⟩ = some (.slice a2 p.kids.len c2) := hcl 4 _ rfl
          clear hcl
          go_wp2_with (refine wQ_store rfl _ _ _ (by rfl) (by exact hR) g0 rfl #[.int .i64 p.k, .int .i64 p.o, .string p.n, .string p.t, .slice a2 p.kids.len c2] (by rfl) _ _ _ (by repeat (first | exact Pick.here | apply Pick.there)) (by kernel_rfl) (by kernel_rfl) (by kernel_rfl) ?_; intro w12 hR hsmx hszx)
          refine bodyPost_rws3 rfl hR g0 rfl _ _ (List.Mem.head _) _ Tryz.underlying24 rfl (by kernel_rfl) _ _ rfl rfl rfl (fun hbz => ?_)
          rw [HL.out, HFN.out]
          exact ⟨⟨_, _, _, _, rfl, HALL.out.2.2.2.same (fun k hk _ => hk.1) (fun k hk hlt => hsmx k hk.2.1), HST.out⟩, hpn, hpt, hbz⟩
        · have hfin : finP 0 (acc.snoc p) p = ⟨2, 0, e0, e0, acc.snoc p⟩ := by unfold finP; rw [if_neg (by rw [HSN.out]; omega)]; rfl
          have HFN := Lib.hid hfin
          have hoz : (((acc.len : Int) + 1) == 1) = false := by simp; omega
          have hoz2 : ¬ (acc.len : Int) + 1 = 1 := by omega
          clear hfin HCK0
          go_wp2_with (first
            | (go_at_call_of 65 (Value.string ⟨#[97, 110, 100]⟩); refine (HIr.out _ hR.below).mono ?_; rintro e wic ⟨rfl, rfl⟩)
            | (refine wQ_store rfl _ _ _ (by rfl) (by exact hR) g0 rfl #[.int .i64 2, .int .i64 0, .string e0, .string e0, .slice (some ⟨g', 0, none⟩) (acc.len + 1) cap'] (by rfl) _ _ _ (by repeat (first | exact Pick.here | apply Pick.there)) (by kernel_rfl) (by kernel_rfl) (by kernel_rfl) ?_; intro w12 hR hsm hsz))
          refine bodyPost_rws3 rfl hR g0 rfl _ _ (List.Mem.head _) _ Tryz.underlying24 rfl (by kernel_rfl) _ _ rfl rfl rfl (fun hbz => ?_)
          rw [HL.out, HFN.out]
          obtain ⟨y1, y2, y3, y4⟩ := HALL.out
          obtain ⟨hxl, ⟨hv0, _⟩ | ⟨gv, capv, cur, hv, hgB, hgh, rest⟩⟩ := y1
          · cases hv0
          have hown12 : w12.ownsRow w.heap.size 24 5 (.slice (some ⟨g', 0, none⟩) (acc.snoc p).len cap') (acc.snoc p).len (xs ++ pcl p a2 c2) := by
            refine ⟨hxl, .inr ⟨gv, capv, cur, hv, hgB, ?_, rest⟩⟩
            have hgv : g' = gv := by simp only [Value.slice.injEq, Option.some.injEq, Addr.mk.injEq, and_true, true_and] at hv; exact hv.1
            rw [hsm gv (by rw [← hgv]; exact fun e => y3 e.symm)]
            exact hgh
          have hchk12 : Chk (fun k => w.heap.size ≤ k) w12 (acc.snoc p) (xs ++ pcl p a2 c2) := y2.same (fun k hk _ => hk.1) (fun k hk hlt => hsm k hk.2.1)
          obtain ⟨ad9, c9, hv9, hq9⟩ := hchk12.slq hown12 (fun g2 c' he => by
            simp only [Value.slice.injEq, Option.some.injEq, Addr.mk.injEq, and_true, true_and] at he
            rw [← he.1]; exact hg'B)
          simp only [Value.slice.injEq, true_and] at hv9
          obtain ⟨rfl, rfl⟩ := hv9
          exact ⟨⟨_, _, _, _, by rw [HSN.out]; rfl, hq9, HST.out⟩, (show e0.size ≤ SB by decide), (show e0.size ≤ SB by decide), hbz⟩
end Go.Proofs.YthpagppipifgeaaGreatDoor
/- ostiaryref20.many: the walk, for 'or'. -/
namespace Go.Proofs.YthpagppipifgeaaGreatDoor
open Go.RowKit

set_option maxRecDepth 100000 in
set_option maxHeartbeats 16000000 in
theorem many1_any (F : Nat) (hp : ∀ g, g ≤ F → ManyAt g 0) : ManyAt (F + 1) 1 := by
  intro ts ad c w0 w hF hb0 hs0
  have hMX := MX_eq
  have HP : Hid (∀ g s ra rc u, g ≤ F → 4 * s.length + 2 ≤ g → SlT w0 s ra rc → Below w.heap.size w u → Calls Tryz.prog 37 #[.slice ra s.length rc, .int .i64 2] u (PKq (parseL g 1 s) w0 u)) := Lib.hid fun g s ra rc u hg hl hs hb => hp g hg s ra rc w0 u (by omega) (hb0.trans (hb.mono hb0.size)) hs
  have HI : Hid (∀ s ra rc u, SlT w0 s ra rc → Below w.heap.size w u → Calls Tryz.prog 65 #[.slice ra s.length rc, .string ⟨#[111, 114]⟩] u fun e w' => e = .returned (.bool (isT (wOf 1) s)) ∧ w' = u) := Lib.hid fun s ra rc u hs hb => is_any s ra rc ⟨#[111, 114]⟩ u (hs.grown (hb0.trans (hb.mono hb0.size)))
  have hl0 := hs0.ln.1
  rw [show kOf 1 = 3 from rfl, parseL_many]
  have HS0 := Lib.hid hs0
  have hR := Rws.start w
  clear hp hs0
  go_enter Tryz.func37, Tryz.ntmps37
  go_upto_region 1 with (refine wQ_alloc (cs := zP) rfl _ (by rfl) (by exact hR) zero_pol ?_; intro g0 w1 hR hbg0 hg0)
  go_upto_region 2 with fail
  have hw1 := hbg0.size
  have hg0l : g0 < w1.heap.size := hR.lt (List.Mem.head _)
  have hRA := hR.alloc0 (.cells #[] 24)
  have hown0 : (w1.alloc (.cells #[] 24)).ownsRow w.heap.size 24 5 (.slice (some ⟨w1.heap.size, 0, none⟩) 0 0) 0 [] :=
    ⟨rfl, .inr ⟨w1.heap.size, 0, #[], rfl, hw1, heap_alloc_new _ _, Nat.le_refl _, by decide, rfl, rfl⟩⟩
  have hn0 : g0 ≠ w1.heap.size := by omega
  go_loopg [0, 7] F (fun gg s0 s7 wr => ∃ (f : Nat) (acc : Fo) (s : List Tok) (ra : Option Addr) (rc : Nat) (xs : List Value) (gl cap : Nat),
    gg = f ∧ s0 = .slice ra s.length rc ∧ s7 = .slice (some ⟨gl, 0, none⟩) acc.len cap ∧ Aside (manyR f 1 acc s = manyR F 1 .nil ts) ∧ 4 * s.length + 2 ≤ f ∧ f ≤ F ∧ acc.len + s.length ≤ 1024
    ∧ Aside (SlT w0 s ra rc) ∧ Aside (Rws w.heap.size w wr [(g0, zP, 24)])
    ∧ Aside (wr.ownsRow w.heap.size 24 5 (.slice (some ⟨gl, 0, none⟩) acc.len cap) acc.len xs) ∧ Aside (Chk (fun k => w.heap.size ≤ k ∧ k ≠ g0 ∧ k ≠ gl) wr acc xs)
    ∧ Aside (g0 ≠ gl))
  case atStart =>
    exact ⟨F, .nil, ts, ad, c, [], w1.heap.size, 0, rfl, rfl, rfl, rfl, by omega, Nat.le_refl _, by show 0 + _ ≤ _; omega, HS0.out, hRA, hown0, rfl, hn0⟩
  case round =>
    obtain ⟨f, acc, s, ra, rc, xs, gl, cap, rfl, rfl, rfl, HA, hfu, hfF, hac, HS, HR, HO, HCK, HNB⟩ := hrel
    have hR := HR.out
    have hR0lt : g0 < wr.heap.size := hR.lt (List.Mem.head _)
    obtain ⟨f', rfl⟩ : ∃ f', gk = f' + 1 := ⟨gk - 1, by omega⟩
    clear HR hRA hown0 hn0
    cases hr : parseL (f' + 1) 1 s with
    | none =>
      have HL := Lib.hid (HA.out.symm.trans (manyR_none hr))
      go_wp2_with (first
        | (refine wQ_alloc (cs := zP) rfl _ (by rfl) (by exact hR) zero_pol ?_; intro g8 w3 hR hbg8 hg8)
        | (go_at_call 37; refine (HP.out _ _ _ _ _ hfF hfu HS.out hR.below).mono ?_; rw [hr]; rintro e w5 ⟨⟨k, o, n, t, ad2, l, c2, rs, rfl⟩, hb5⟩; have hR := hR.call hb5)
        | (refine wQ_store rfl _ _ _ (by rfl) (by exact hR) g8 rfl #[.int .i64 k, .int .i64 o, .string n, .string t, .slice ad2 l c2] (by rfl) _ _ _ (by repeat (first | exact Pick.here | apply Pick.there)) (by kernel_rfl) (by kernel_rfl) (by kernel_rfl) ?_; intro w6 hR hsm hsz)
        | (refine wQ_store rfl _ _ _ (by rfl) (by exact hR) g0 rfl #[.int .i64 0, .int .i64 0, .string ⟨#[]⟩, .string ⟨#[]⟩, .slice none 0 0] (by rfl) _ _ _ (by repeat (first | exact Pick.here | apply Pick.there)) (by kernel_rfl) (by kernel_rfl) (by kernel_rfl) ?_; intro w7 hR hsmx hszx))
      refine bodyPost_rws3 rfl hR g0 rfl _ _ (List.Mem.head _) _ Tryz.underlying24 rfl (by kernel_rfl) _ _ rfl rfl rfl (fun hbz => ?_)
      rw [HL.out]
      exact ⟨⟨_, _, _, _, _, _, _, _, rfl⟩, hbz⟩
    | some pr =>
      obtain ⟨p, r⟩ := pr
      have hlen := parseL_len hr
      have HHR := Lib.hid hr
      go_upto_region 9 with (first
        | (refine wQ_alloc (cs := zP) rfl _ (by rfl) (by exact hR) zero_pol ?_; intro g8 w3 hR hbg8 hg8; have hg8l : g8 < w3.heap.size := hR.lt (List.Mem.head _))
        | (go_at_call 37; refine (HP.out _ _ _ _ _ hfF hfu HS.out hR.below).mono ?_; rw [hr]; rintro e w5 ⟨⟨a2, c2, ra2, rc2, rfl, hsl, hst⟩, hpn, hpt, hb5⟩; have hR := hR.call hb5)
        | (refine wQ_store rfl _ _ _ (by rfl) (by exact hR) g8 rfl #[.int .i64 p.k, .int .i64 p.o, .string p.n, .string p.t, .slice a2 p.kids.len c2] (by rfl) _ _ _ (by repeat (first | exact Pick.here | apply Pick.there)) (by kernel_rfl) (by kernel_rfl) (by kernel_rfl) ?_; intro w7 hR hsm hsz))
      have hz3 := hbg8.size
      have hz5 := hb5.size
      have hgll : gl < wr.heap.size := (HO.out.lt gl rfl).2
      have hglB : w.heap.size ≤ gl := (HO.out.lt gl rfl).1
      have hg0r : g0 < wr.heap.size := hR0lt
      have hwr7 : wr.heap.size ≤ w7.heap.size := by omega
      have hB7 : w.heap.size ≤ w7.heap.size := hR.len
      have hsame7 : ∀ k, k < wr.heap.size → w7.heap[k]? = wr.heap[k]? := fun k hlt => ((hsm k (by omega)).trans (hb5.block k (by omega))).trans (hbg8.block k hlt)
      have hown7 : w7.ownsRow w.heap.size 24 5 (.slice (some ⟨gl, 0, none⟩) acc.len cap) acc.len xs := by
        obtain ⟨hxl, ⟨hv0, _⟩ | ⟨gv, capv, cur, hv, hgB, hgh, rest⟩⟩ := HO.out
        · cases hv0
        · exact ⟨hxl, .inr ⟨gv, capv, cur, hv, hgB, (hsame7 gv (Array.getElem?_eq_some_iff.1 hgh).1).trans hgh, rest⟩⟩
      have hchk7 : Chk (fun k => (w.heap.size ≤ k ∧ k ≠ g0 ∧ k ≠ gl) ∧ k < w7.heap.size) w7 acc xs := HCK.out.same (fun k hk hlt => ⟨hk, by omega⟩) (fun k _ hlt => hsame7 k hlt)
      have hsl7 : SlQ (fun k => (w.heap.size ≤ k ∧ k ≠ g0 ∧ k ≠ gl) ∧ k < w7.heap.size) w7 p.kids a2 c2 := hsl.same (fun k hk hlt => ⟨⟨by omega, by omega, by omega⟩, by omega⟩) (fun k hk hlt => hsm k (by omega))
      have hlen5 := hchk7.len
      have HR7 := Lib.hid hR
      have HST := Lib.hid hst
      clear hsm hsz hsl hsame7 hst
      obtain ⟨i0, hi, hz0, hz1, hz2⟩ := info_parts info_pol
      go_wp2_with (first
        | (refine wpList_load_rws rfl _ _ (by rfl) (by assumption) _ rfl _ _ (by repeat (first | exact List.Mem.head _ | refine List.Mem.tail _ ?_)) _ Tryz.underlying24 rfl (by kernel_rfl) ?_)
        | (at_builtin; refine wpList_app2 rfl _ _ 22 rfl 24 i0 (.agg zP) 5 72 Tryz.underlying22 hi hz0 hz1 hz2 rfl w.heap.size gl acc.len cap xs rfl (hown7.alloc _) ⟨w7.heap.size, 0, none⟩ 1 (pcl p a2 c2) rfl rfl ?c1 ?c2 (by omega) (by omega) ?c3 ?_))
      case c1 =>
        intro j u hj
        have h2 := new_cell (w := w7) rfl #[.int .i64 p.k, .int .i64 p.o, .string p.n, .string p.t, .slice a2 p.kids.len c2] 24 j (v := u) (by rw [← hj]; simp [pcl])
        rw [add_z]
        exact h2
      case c2 => intro u hu; simp [pcl] at hu; rcases hu with rfl | rfl | rfl | rfl | rfl <;> rfl
      case c3 => simp; omega
      intro g' cap' w10 hown10 hgr hg'
      have hsame10 : ∀ k, k ≠ gl → k < w7.heap.size → w10.heap[k]? = w7.heap[k]? := fun k hn hk =>
        (hgr.block k (by simp; omega) (fun e => hn (Option.some.inj e))).trans ((b_alloc w7 _).block k hk)
      have hR := ((HR7.out.sub (List.Sublist.cons _ (List.Sublist.refl _))).alloc0 (.cells #[.int .i64 p.k, .int .i64 p.o, .string p.n, .string p.t, .slice a2 p.kids.len c2] 24)).grown hgr hglB (by
        intro x hx
        rcases List.mem_cons.1 hx with rfl | hx
        · exact HNB.out
        · cases hx)
      have hA7 : (w7.alloc (.cells #[.int .i64 p.k, .int .i64 p.o, .string p.n, .string p.t, .slice a2 p.kids.len c2] 24)).heap.size = w7.heap.size + 1 := by simp
      have hown11 : w10.ownsRow w.heap.size 24 5 (.slice (some ⟨g', 0, none⟩) (acc.snoc p).len cap') (acc.snoc p).len (xs ++ pcl p a2 c2) := by rw [Fo.snoc_len]; exact hown10
      have hsl10 : SlQ (fun k => w.heap.size ≤ k ∧ k ≠ g0 ∧ k ≠ g') w10 p.kids a2 c2 := hsl7.same (fun k hk hlt => ⟨hk.1.1, hk.1.2.1, by rcases hg' with rfl | rfl; exact hk.1.2.2; omega⟩) (fun k hk hlt => hsame10 k hk.1.2.2 hlt)
      have hchk10 : Chk (fun k => w.heap.size ≤ k ∧ k ≠ g0 ∧ k ≠ g') w10 acc xs := hchk7.same (fun k hk hlt => ⟨hk.1.1, hk.1.2.1, by rcases hg' with rfl | rfl; exact hk.1.2.2; omega⟩) (fun k hk hlt => hsame10 k hk.1.2.2 hlt)
      have hchk11 := Chk.snoc hpn hpt hsl10 hchk10
      have hnb : g0 ≠ g' := by rcases hg' with rfl | rfl; exact HNB.out; omega
      have hg'B : w.heap.size ≤ g' := by rcases hg' with rfl | rfl; exact hglB; omega
      have hsn := Fo.snoc_len acc p
      have HALL : Hid (_ ∧ _ ∧ _ ∧ _) := Lib.hid ⟨hown11, hchk11, hnb, hsl10⟩
      have HSN := Lib.hid hsn
      have HCK0 : Hid (acc.len = 0 → xs = []) := Lib.hid (fun h => List.eq_nil_of_length_eq_zero (by omega))
      have HIr0 : Hid (∀ u, Below w.heap.size w u → Calls Tryz.prog 65 #[.slice ra2 r.length rc2, .string ⟨#[111, 114]⟩] u fun e w' => e = .returned (.bool (isT (wOf 1) r)) ∧ w' = u) := Lib.hid fun u hb => HI.out r ra2 rc2 u HST.out hb
      clear hown11 hchk11 hsl10 hown10 hgr hg' hsame10 hA7 hchk10 hown7 hchk7 hsl7 hlen5 hi hz0 hz1 hz2 hr HNB HCK HO HR7 hbg8 hb5 hgll hg0r hwr7 hB7 hz3 hz5 HS hsn
      go_upto_region 10 with fail
      cases hi : isT (wOf 1) r with
      | true =>
        have HL := Lib.hid ((manyR_more (acc := acc) HHR.out hi).symm.trans HA.out)
        have HIr : Hid (∀ u, Below w.heap.size w u → Calls Tryz.prog 65 #[.slice ra2 r.length rc2, .string ⟨#[111, 114]⟩] u fun e w' => e = .returned (.bool true) ∧ w' = u) := Lib.hid fun u hb => by rw [← hi]; exact HIr0.out u hb
        obtain ⟨r3, rfl⟩ := isT_head hi
        rw [List.tail_cons] at HL
        obtain ⟨b, fo, had, _⟩ := HST.out.at_
        have hle := HST.out.le
        have hcm := HST.out.cm
        obtain rfl : ra2 = some ⟨b, fo, none⟩ := by rcases had with h | ⟨_, h⟩; exact h; simp at h
        obtain ⟨A, hAA, hT⟩ : ∃ A, A = (if rc2 = 1 then some ⟨b, fo, none⟩ else some ⟨b, fo + 2, none⟩) ∧ SlT w0 r3 A (rc2 - 1) := ⟨_, rfl, HST.out.tail⟩
        have hln : ((wOf 1, false) :: r3 : List Tok).length = r3.length + 1 := rfl
        rw [hln] at HIr hle hlen ⊢
        have HT := Lib.hid hT
        have hlz : (1 : Int) ≤ (r3.length : Int) + 1 := by omega
        have hAc : (rc2 = 1 ∧ A = some ⟨b, fo, none⟩) ∨ (¬ rc2 = 1 ∧ A = some ⟨b, fo + 2, none⟩) := by
          by_cases h : rc2 = 1
          · left; exact ⟨h, by rw [hAA, if_pos h]⟩
          · right; exact ⟨h, by rw [hAA, if_neg h]⟩
        have HZZ : Hid ((4 * r3.length + 2 ≤ f' ∧ f' ≤ F) ∧ (acc.snoc p).len + r3.length ≤ 1024) := Lib.hid ⟨⟨by omega, by omega⟩, by have := HSN.out; omega⟩
        clear had hAA hT hln hi HIr0 HST hpn hpt HHR HA
        rcases hAc with ⟨rfl, rfl⟩ | ⟨hc1, rfl⟩
        · obtain rfl : r3 = [] := List.eq_nil_of_length_eq_zero (by omega)
          go_wp2_with (go_at_call_of 65 (Value.string ⟨#[111, 114]⟩); refine (HIr.out _ hR.below).mono ?_; rintro e wic ⟨rfl, rfl⟩)
          go_roundg f'
          case measure => omega
          case rel =>
            obtain ⟨⟨z1, z2⟩, z3⟩ := HZZ.out
            obtain ⟨y1, y2, y3, y4⟩ := HALL.out
            exact ⟨f', acc.snoc p, [], _, _, xs ++ pcl p a2 c2, g', cap', rfl, rfl, by rw [HSN.out], HL.out, z1, z2, z3, HT.out, hR, y1, y2, y3⟩
        · go_wp2_with (go_at_call_of 65 (Value.string ⟨#[111, 114]⟩); refine (HIr.out _ hR.below).mono ?_; rintro e wic ⟨rfl, rfl⟩)
          go_roundg f'
          case measure => omega
          case rel =>
            obtain ⟨⟨z1, z2⟩, z3⟩ := HZZ.out
            obtain ⟨y1, y2, y3, y4⟩ := HALL.out
            exact ⟨f', acc.snoc p, r3, _, _, xs ++ pcl p a2 c2, g', cap', rfl, rfl, by rw [HSN.out], HL.out, z1, z2, z3, HT.out, hR, y1, y2, y3⟩
      | false =>
        have HL := Lib.hid (HA.out.symm.trans (manyR_end (acc := acc) HHR.out hi))
        have HIr : Hid (∀ u, Below w.heap.size w u → Calls Tryz.prog 65 #[.slice ra2 r.length rc2, .string ⟨#[111, 114]⟩] u fun e w' => e = .returned (.bool false) ∧ w' = u) := Lib.hid fun u hb => by rw [← hi]; exact HIr0.out u hb
        clear hi HIr0 HHR HA
        by_cases hone : acc.len = 0
        · have hfin : finP 1 (acc.snoc p) p = p := by unfold finP; rw [if_pos (by rw [HSN.out]; omega)]
          have HFN := Lib.hid hfin
          have hxs := HCK0.out hone
          have hoz : (((acc.len : Int) + 1) == 1) = true := by rw [hone]; rfl
          clear hfin HCK0
          subst hxs
          go_upto_region 13 with (go_at_call_of 65 (Value.string ⟨#[111, 114]⟩); refine (HIr.out _ hR.below).mono ?_; rintro e wic ⟨rfl, rfl⟩)
          have hcl := World.ownsRow.cells HALL.out.1 (g := g') rfl
          have y0 : wic.cell? ⟨g', 0, none⟩ = some (.int .i64 p.k) := hcl 0 _ rfl; have y1 : wic.cell? ⟨g', 1, none⟩ = some (.int .i64 p.o) := hcl 1 _ rfl; have y2 : wic.cell? ⟨g', 2, none⟩ = some (.string p.n) := hcl 2 _ rfl; have y3 : wic.cell? ⟨g', 3, none⟩ = some (.string p.t) := hcl 3 _ rfl; have y4 : wic.cell? ⟨g', 4, none⟩ = some (.slice a2 p.kids.len c2) := hcl 4 _ rfl
          clear hcl
          go_wp2_with (refine wQ_store rfl _ _ _ (by rfl) (by exact hR) g0 rfl #[.int .i64 p.k, .int .i64 p.o, .string p.n, .string p.t, .slice a2 p.kids.len c2] (by rfl) _ _ _ (by repeat (first | exact Pick.here | apply Pick.there)) (by kernel_rfl) (by kernel_rfl) (by kernel_rfl) ?_; intro w12 hR hsmx hszx)
          refine bodyPost_rws3 rfl hR g0 rfl _ _ (List.Mem.head _) _ Tryz.underlying24 rfl (by kernel_rfl) _ _ rfl rfl rfl (fun hbz => ?_)
          rw [HL.out, HFN.out]
          exact ⟨⟨_, _, _, _, rfl, HALL.out.2.2.2.same (fun k hk _ => hk.1) (fun k hk hlt => hsmx k hk.2.1), HST.out⟩, hpn, hpt, hbz⟩
        · have hfin : finP 1 (acc.snoc p) p = ⟨3, 0, e0, e0, acc.snoc p⟩ := by unfold finP; rw [if_neg (by rw [HSN.out]; omega)]; rfl
          have HFN := Lib.hid hfin
          have hoz : (((acc.len : Int) + 1) == 1) = false := by simp; omega
          have hoz2 : ¬ (acc.len : Int) + 1 = 1 := by omega
          clear hfin HCK0
          go_wp2_with (first
            | (go_at_call_of 65 (Value.string ⟨#[111, 114]⟩); refine (HIr.out _ hR.below).mono ?_; rintro e wic ⟨rfl, rfl⟩)
            | (refine wQ_store rfl _ _ _ (by rfl) (by exact hR) g0 rfl #[.int .i64 3, .int .i64 0, .string e0, .string e0, .slice (some ⟨g', 0, none⟩) (acc.len + 1) cap'] (by rfl) _ _ _ (by repeat (first | exact Pick.here | apply Pick.there)) (by kernel_rfl) (by kernel_rfl) (by kernel_rfl) ?_; intro w12 hR hsm hsz))
          refine bodyPost_rws3 rfl hR g0 rfl _ _ (List.Mem.head _) _ Tryz.underlying24 rfl (by kernel_rfl) _ _ rfl rfl rfl (fun hbz => ?_)
          rw [HL.out, HFN.out]
          obtain ⟨y1, y2, y3, y4⟩ := HALL.out
          obtain ⟨hxl, ⟨hv0, _⟩ | ⟨gv, capv, cur, hv, hgB, hgh, rest⟩⟩ := y1
          · cases hv0
          have hown12 : w12.ownsRow w.heap.size 24 5 (.slice (some ⟨g', 0, none⟩) (acc.snoc p).len cap') (acc.snoc p).len (xs ++ pcl p a2 c2) := by
            refine ⟨hxl, .inr ⟨gv, capv, cur, hv, hgB, ?_, rest⟩⟩
            have hgv : g' = gv := by simp only [Value.slice.injEq, Option.some.injEq, Addr.mk.injEq, and_true, true_and] at hv; exact hv.1
            rw [hsm gv (by rw [← hgv]; exact fun e => y3 e.symm)]
            exact hgh
          have hchk12 : Chk (fun k => w.heap.size ≤ k) w12 (acc.snoc p) (xs ++ pcl p a2 c2) := y2.same (fun k hk _ => hk.1) (fun k hk hlt => hsm k hk.2.1)
          obtain ⟨ad9, c9, hv9, hq9⟩ := hchk12.slq hown12 (fun g2 c' he => by
            simp only [Value.slice.injEq, Option.some.injEq, Addr.mk.injEq, and_true, true_and] at he
            rw [← he.1]; exact hg'B)
          simp only [Value.slice.injEq, true_and] at hv9
          obtain ⟨rfl, rfl⟩ := hv9
          exact ⟨⟨_, _, _, _, by rw [HSN.out]; rfl, hq9, HST.out⟩, (show e0.size ≤ SB by decide), (show e0.size ≤ SB by decide), hbz⟩
end Go.Proofs.YthpagppipifgeaaGreatDoor
