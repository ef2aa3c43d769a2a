/- ostiaryref20.single: a bracket. -/
import Derived.Test.YthpagppipifgeaaGreatDoorZLM
namespace Go.Proofs.YthpagppipifgeaaGreatDoor
open Go.RowKit

set_option maxRecDepth 100000 in
set_option maxHeartbeats 16000000 in
theorem single_open (f : Nat) (h0 : ManyAt f 1) (ts : List Tok) (ad : Option Addr) (c : Nat) (w0 w : World) (hb0 : Below w0.heap.size w0 w) (hs0 : SlT w0 ts ad c) (hf : 4 * ts.length ≤ f + 1) (h1 : isT [40] ts = true) :
    Calls Tryz.prog 64 #[.slice ad ts.length c] w (PKq (oneL (parseL f) ts) w0 w) := by
  have hMX := MX_eq
  have hs := hs0.grown hb0
  have hans : oneL (parseL f) ts = (match parseL f 2 ts.tail with
    | none => none
    | some (q, r) => if isT [41] r = true then some (q, r.tail) else none) := by
    unfold oneL; rw [if_pos h1]; cases parseL f 2 ts.tail <;> rfl
  rw [hans]
  have HIp : Hid (∀ u, Below w.heap.size w u → Calls Tryz.prog 65 #[.slice ad ts.length c, .string ⟨#[40]⟩] u fun e w' => e = .returned (.bool true) ∧ w' = u) := Lib.hid fun u hb => by rw [← h1]; exact is_any ts ad c ⟨#[40]⟩ u (hs.grown hb)
  obtain ⟨r, rfl⟩ := isT_head h1
  have hle := hs.le
  have hcm := hs.cm
  obtain ⟨b, fo, had, _⟩ := hs.at_
  obtain rfl : ad = some ⟨b, fo, none⟩ := by rcases had with h | ⟨_, h⟩; exact h; simp at h
  obtain ⟨A, hA, hT⟩ : ∃ A, A = (if c = 1 then some ⟨b, fo, none⟩ else some ⟨b, fo + 2, none⟩) ∧ SlT w0 r A (c - 1) := ⟨_, rfl, hs0.tail⟩
  have hln : (([40], false) :: r : List Tok).length = r.length + 1 := rfl
  rw [hln] at HIp hle hf ⊢
  rw [List.tail_cons]
  have hlz : (1 : Int) ≤ (r.length : Int) + 1 := by omega
  have HS : Hid (∀ u, Below w.heap.size w u → Calls Tryz.prog 37 #[.slice A r.length (c - 1), .int .i64 3] u (PKq (parseL f 2 r) w0 u)) := Lib.hid fun u hb => h0 r A (c - 1) w0 u (by omega) (hb0.trans (hb.mono hb0.size)) hT
  have hAc : (c = 1 ∧ A = some ⟨b, fo, none⟩) ∨ (¬ c = 1 ∧ A = some ⟨b, fo + 2, none⟩) := by
    by_cases h : c = 1
    · left; exact ⟨h, by rw [hA, if_pos h]⟩
    · right; exact ⟨h, by rw [hA, if_neg h]⟩
  have hR := Rws.start w
  clear hans hs hs0 h0 h1 had hln hT hA
  rcases hAc with ⟨rfl, rfl⟩ | ⟨hc1, rfl⟩
  · obtain rfl : r = [] := List.eq_nil_of_length_eq_zero (by omega)
    cases hr : parseL f 2 [] with
    | none =>
      rw [hr] at HS
      simp only
      go_enter Tryz.func64, Tryz.ntmps64
      go_upto_region 1 with (refine wQ_alloc (cs := zP) rfl _ (by rfl) (by assumption) zero_pol ?_; intro g0 w1 hR hbg0 hg0)
      go_wp2_with (first
        | (go_at_call_of 65 (Value.string ⟨#[40]⟩); refine (HIp.out _ hR.below).mono ?_; rintro e wip ⟨rfl, rfl⟩)
        | (go_at_call 37; refine (HS.out _ hR.below).mono ?_; rintro e w2 ⟨⟨k, o, n, t, ad, l, c', rs, rfl⟩, hb⟩; have hR := hR.call hb)
        | (refine wQ_alloc (cs := zP) rfl _ (by rfl) (by assumption) zero_pol ?_; intro g5 w3 hR hbg5 hg5)
        | (refine wQ_store rfl _ _ _ (by rfl) (by exact hR) g5 rfl #[.int .i64 k, .int .i64 o, .string n, .string t, .slice ad l c'] (by rfl) _ _ _ (by repeat (first | exact Pick.here | apply Pick.there)) (by kernel_rfl) (by kernel_rfl) (by kernel_rfl) ?_; intro w4 hR hsm hsz)
        | (refine wQ_store rfl _ _ _ (by rfl) (by exact hR) g0 rfl #[.int .i64 0, .int .i64 0, .string ⟨#[]⟩, .string ⟨#[]⟩, .slice none 0 0] (by rfl) _ _ _ (by repeat (first | exact Pick.here | apply Pick.there)) (by kernel_rfl) (by kernel_rfl) (by kernel_rfl) ?_; intro w5 hR hsm7 hsz7))
      refine bodyPost_rws3 rfl (by assumption) g0 rfl _ _ (List.Mem.head _) _ Tryz.underlying24 rfl (by kernel_rfl) _ _ rfl rfl rfl (fun hbz => ?_)
      exact ⟨⟨_, _, _, _, _, _, _, _, rfl⟩, hbz⟩
    | some p =>
      obtain ⟨q, r2⟩ := p
      rw [hr] at HS
      simp only
      go_enter Tryz.func64, Tryz.ntmps64
      go_upto_region 1 with (refine wQ_alloc (cs := zP) rfl _ (by rfl) (by assumption) zero_pol ?_; intro g0 w1 hR hbg0 hg0)
      have hg0l : g0 < w1.heap.size := hR.lt (List.Mem.head _)
      go_upto_region 3 with (first
        | (go_at_call_of 65 (Value.string ⟨#[40]⟩); refine (HIp.out _ hR.below).mono ?_; rintro e wip ⟨rfl, rfl⟩)
        | (go_at_call 37; refine (HS.out _ hR.below).mono ?_; rintro e w2 ⟨⟨ap, cp, ra, rc, rfl, hsl, hsr⟩, hpn, hpt, hb⟩; have hR := hR.call hb)
        | (refine wQ_alloc (cs := zP) rfl _ (by rfl) (by assumption) zero_pol ?_; intro g5 w3 hR hbg5 hg5)
        | (refine wQ_store rfl _ _ _ (by rfl) (by assumption) _ rfl #[.int .i64 q.k, .int .i64 q.o, .string q.n, .string q.t, .slice ap q.kids.len cp] (by rfl) _ _ _ (by repeat (first | exact Pick.here | apply Pick.there)) (by kernel_rfl) (by kernel_rfl) (by kernel_rfl) ?_; intro w4 hR hsm hsz))
      have hw1B := hbg0.size
      have hg0w : g0 < w4.heap.size := hR.lt (List.Mem.tail _ (List.Mem.head _))
      have hq4 : SlQ (fun k => w.heap.size ≤ k ∧ k ≠ g0) w4 q.kids ap cp := hsl.same (fun k hk hlt => ⟨by omega, by omega⟩) (fun k hk hlt => (hsm k (by omega)).trans (hbg5.block k hlt))
      have HQ := Lib.hid hq4
      have HIc0 : Hid (∀ u, Below w.heap.size w u → Calls Tryz.prog 65 #[.slice ra r2.length rc, .string ⟨#[41]⟩] u fun e w' => e = .returned (.bool (isT [41] r2)) ∧ w' = u) := Lib.hid fun u hb => is_any r2 ra rc ⟨#[41]⟩ u (hsr.grown (hb0.trans (hb.mono hb0.size)))
      have HSR := Lib.hid hsr
      clear hsl hsr hq4 hsm hsz hbg5 hb
      cases hcl : isT [41] r2 with
      | false =>
        have HIc : Hid (∀ u, Below w.heap.size w u → Calls Tryz.prog 65 #[.slice ra r2.length rc, .string ⟨#[41]⟩] u fun e w' => e = .returned (.bool false) ∧ w' = u) := Lib.hid fun u hb => by rw [← hcl]; exact HIc0.out u hb
        simp only [Bool.false_eq_true, if_false]
        clear HIc0
        go_wp2_with (first
          | (go_at_call_of 65 (Value.string ⟨#[41]⟩); refine (HIc.out _ hR.below).mono ?_; rintro e wic ⟨rfl, rfl⟩)
          | (refine wQ_store rfl _ _ _ (by rfl) (by exact hR) g0 rfl #[.int .i64 0, .int .i64 0, .string ⟨#[]⟩, .string ⟨#[]⟩, .slice none 0 0] (by rfl) _ _ _ (by repeat (first | exact Pick.here | apply Pick.there)) (by kernel_rfl) (by kernel_rfl) (by kernel_rfl) ?_; intro w5 hR hsm7 hsz7))
        all_goals
          refine bodyPost_rws3 rfl (by assumption) g0 rfl _ _ (List.Mem.head _) _ Tryz.underlying24 rfl (by kernel_rfl) _ _ rfl rfl rfl (fun hbz => ?_)
          exact ⟨⟨_, _, _, _, _, _, _, _, rfl⟩, hbz⟩
      | true =>
        have HIc : Hid (∀ u, Below w.heap.size w u → Calls Tryz.prog 65 #[.slice ra r2.length rc, .string ⟨#[41]⟩] u fun e w' => e = .returned (.bool true) ∧ w' = u) := Lib.hid fun u hb => by rw [← hcl]; exact HIc0.out u hb
        obtain ⟨r3, rfl⟩ := isT_head hcl
        simp only [if_true, List.tail_cons]
        obtain ⟨b2, f2, had2, _⟩ := HSR.out.at_
        have hle2 := HSR.out.le
        have hcm2 := HSR.out.cm
        obtain rfl : ra = some ⟨b2, f2, none⟩ := by rcases had2 with h | ⟨_, h⟩; exact h; simp at h
        have hln2 : (([41], false) :: r3 : List Tok).length = r3.length + 1 := rfl
        rw [hln2] at HIc hle2 ⊢
        obtain ⟨A2, hA2, hT2⟩ : ∃ A, A = (if rc = 1 then some ⟨b2, f2, none⟩ else some ⟨b2, f2 + 2, none⟩) ∧ SlT w0 r3 A (rc - 1) := ⟨_, rfl, HSR.out.tail⟩
        have HT2 := Lib.hid hT2
        have hlz2 : (1 : Int) ≤ (r3.length : Int) + 1 := by omega
        have hAc2 : (rc = 1 ∧ A2 = some ⟨b2, f2, none⟩) ∨ (¬ rc = 1 ∧ A2 = some ⟨b2, f2 + 2, none⟩) := by
          by_cases h : rc = 1
          · left; exact ⟨h, by rw [hA2, if_pos h]⟩
          · right; exact ⟨h, by rw [hA2, if_neg h]⟩
        clear HIc0 hcl had2 hln2 hA2 hT2 HSR
        go_upto_region 5 with (go_at_call_of 65 (Value.string ⟨#[41]⟩); refine (HIc.out _ hR.below).mono ?_; rintro e wic ⟨rfl, rfl⟩)
        have x0 := hR.cellAt (g := g0) (by repeat (first | exact List.Mem.head _ | refine List.Mem.tail _ ?_)) 0 rfl; have t0 := hR.thaw (g := g0) (by repeat (first | exact List.Mem.head _ | refine List.Mem.tail _ ?_)) 0; have y0 := hR.cellAt (g := g5) (List.Mem.head _) 0 rfl; have x1 := hR.cellAt (g := g0) (by repeat (first | exact List.Mem.head _ | refine List.Mem.tail _ ?_)) 1 rfl; have t1 := hR.thaw (g := g0) (by repeat (first | exact List.Mem.head _ | refine List.Mem.tail _ ?_)) 1; have y1 := hR.cellAt (g := g5) (List.Mem.head _) 1 rfl; have x2 := hR.cellAt (g := g0) (by repeat (first | exact List.Mem.head _ | refine List.Mem.tail _ ?_)) 2 rfl; have t2 := hR.thaw (g := g0) (by repeat (first | exact List.Mem.head _ | refine List.Mem.tail _ ?_)) 2; have y2 := hR.cellAt (g := g5) (List.Mem.head _) 2 rfl; have x3 := hR.cellAt (g := g0) (by repeat (first | exact List.Mem.head _ | refine List.Mem.tail _ ?_)) 3 rfl; have t3 := hR.thaw (g := g0) (by repeat (first | exact List.Mem.head _ | refine List.Mem.tail _ ?_)) 3; have y3 := hR.cellAt (g := g5) (List.Mem.head _) 3 rfl; have x4 := hR.cellAt (g := g0) (by repeat (first | exact List.Mem.head _ | refine List.Mem.tail _ ?_)) 4 rfl; have t4 := hR.thaw (g := g0) (by repeat (first | exact List.Mem.head _ | refine List.Mem.tail _ ?_)) 4; have y4 := hR.cellAt (g := g5) (List.Mem.head _) 4 rfl
        have hR3 := (((((hR.swap.drew.setc 0 (.int .i64 q.k)).setc 1 (.int .i64 q.o)).setc 2 (.string q.n)).setc 3 (.string q.t)).setc 4 (.slice ap q.kids.len cp))
        have HR3 := Lib.hid hR3
        have HSAME : Hid (∀ k, k ≠ g0 → (((((wic.drew.setCell ⟨g0, 0, none⟩ (.int .i64 q.k)).setCell ⟨g0, 1, none⟩ (.int .i64 q.o)).setCell ⟨g0, 2, none⟩ (.string q.n)).setCell ⟨g0, 3, none⟩ (.string q.t)).setCell ⟨g0, 4, none⟩ (.slice ap q.kids.len cp)).heap[k]? = wic.heap[k]?) := Lib.hid fun k hk => by
          rw [heap_setCell_other _ ⟨g0, 4, none⟩ k _ hk, heap_setCell_other _ ⟨g0, 3, none⟩ k _ hk, heap_setCell_other _ ⟨g0, 2, none⟩ k _ hk, heap_setCell_other _ ⟨g0, 1, none⟩ k _ hk, heap_setCell_other _ ⟨g0, 0, none⟩ k _ hk]; rfl
        clear hR3
        rcases hAc2 with ⟨rfl, rfl⟩ | ⟨hc2, rfl⟩
        · obtain rfl : r3 = [] := List.eq_nil_of_length_eq_zero (by omega)
          go_region
          all_goals
            go_wp2_with fail
            refine bodyPost_rws3 rfl HR3.out g0 rfl _ _ (List.Mem.head _) _ Tryz.underlying24 rfl (by kernel_rfl) _ _ rfl rfl rfl (fun hbz => ?_)
            exact ⟨⟨_, _, _, _, rfl, HQ.out.same (fun k hk _ => hk.1) (fun k hk hlt => HSAME.out k hk.2), HT2.out⟩, hpn, hpt, hbz⟩
        · go_region
          all_goals
            go_wp2_with fail
            refine bodyPost_rws3 rfl HR3.out g0 rfl _ _ (List.Mem.head _) _ Tryz.underlying24 rfl (by kernel_rfl) _ _ rfl rfl rfl (fun hbz => ?_)
            exact ⟨⟨_, _, _, _, rfl, HQ.out.same (fun k hk _ => hk.1) (fun k hk hlt => HSAME.out k hk.2), HT2.out⟩, hpn, hpt, hbz⟩
  · skip
    cases hr : parseL f 2 r with
    | none =>
      rw [hr] at HS
      simp only
      go_enter Tryz.func64, Tryz.ntmps64
      go_upto_region 1 with (refine wQ_alloc (cs := zP) rfl _ (by rfl) (by assumption) zero_pol ?_; intro g0 w1 hR hbg0 hg0)
      go_wp2_with (first
        | (go_at_call_of 65 (Value.string ⟨#[40]⟩); refine (HIp.out _ hR.below).mono ?_; rintro e wip ⟨rfl, rfl⟩)
        | (go_at_call 37; refine (HS.out _ hR.below).mono ?_; rintro e w2 ⟨⟨k, o, n, t, ad, l, c', rs, rfl⟩, hb⟩; have hR := hR.call hb)
        | (refine wQ_alloc (cs := zP) rfl _ (by rfl) (by assumption) zero_pol ?_; intro g5 w3 hR hbg5 hg5)
        | (refine wQ_store rfl _ _ _ (by rfl) (by exact hR) g5 rfl #[.int .i64 k, .int .i64 o, .string n, .string t, .slice ad l c'] (by rfl) _ _ _ (by repeat (first | exact Pick.here | apply Pick.there)) (by kernel_rfl) (by kernel_rfl) (by kernel_rfl) ?_; intro w4 hR hsm hsz)
        | (refine wQ_store rfl _ _ _ (by rfl) (by exact hR) g0 rfl #[.int .i64 0, .int .i64 0, .string ⟨#[]⟩, .string ⟨#[]⟩, .slice none 0 0] (by rfl) _ _ _ (by repeat (first | exact Pick.here | apply Pick.there)) (by kernel_rfl) (by kernel_rfl) (by kernel_rfl) ?_; intro w5 hR hsm7 hsz7))
      refine bodyPost_rws3 rfl (by assumption) g0 rfl _ _ (List.Mem.head _) _ Tryz.underlying24 rfl (by kernel_rfl) _ _ rfl rfl rfl (fun hbz => ?_)
      exact ⟨⟨_, _, _, _, _, _, _, _, rfl⟩, hbz⟩
    | some p =>
      obtain ⟨q, r2⟩ := p
      rw [hr] at HS
      simp only
      go_enter Tryz.func64, Tryz.ntmps64
      go_upto_region 1 with (refine wQ_alloc (cs := zP) rfl _ (by rfl) (by assumption) zero_pol ?_; intro g0 w1 hR hbg0 hg0)
      have hg0l : g0 < w1.heap.size := hR.lt (List.Mem.head _)
      go_upto_region 3 with (first
        | (go_at_call_of 65 (Value.string ⟨#[40]⟩); refine (HIp.out _ hR.below).mono ?_; rintro e wip ⟨rfl, rfl⟩)
        | (go_at_call 37; refine (HS.out _ hR.below).mono ?_; rintro e w2 ⟨⟨ap, cp, ra, rc, rfl, hsl, hsr⟩, hpn, hpt, hb⟩; have hR := hR.call hb)
        | (refine wQ_alloc (cs := zP) rfl _ (by rfl) (by assumption) zero_pol ?_; intro g5 w3 hR hbg5 hg5)
        | (refine wQ_store rfl _ _ _ (by rfl) (by assumption) _ rfl #[.int .i64 q.k, .int .i64 q.o, .string q.n, .string q.t, .slice ap q.kids.len cp] (by rfl) _ _ _ (by repeat (first | exact Pick.here | apply Pick.there)) (by kernel_rfl) (by kernel_rfl) (by kernel_rfl) ?_; intro w4 hR hsm hsz))
      have hw1B := hbg0.size
      have hg0w : g0 < w4.heap.size := hR.lt (List.Mem.tail _ (List.Mem.head _))
      have hq4 : SlQ (fun k => w.heap.size ≤ k ∧ k ≠ g0) w4 q.kids ap cp := hsl.same (fun k hk hlt => ⟨by omega, by omega⟩) (fun k hk hlt => (hsm k (by omega)).trans (hbg5.block k hlt))
      have HQ := Lib.hid hq4
      have HIc0 : Hid (∀ u, Below w.heap.size w u → Calls Tryz.prog 65 #[.slice ra r2.length rc, .string ⟨#[41]⟩] u fun e w' => e = .returned (.bool (isT [41] r2)) ∧ w' = u) := Lib.hid fun u hb => is_any r2 ra rc ⟨#[41]⟩ u (hsr.grown (hb0.trans (hb.mono hb0.size)))
      have HSR := Lib.hid hsr
      clear hsl hsr hq4 hsm hsz hbg5 hb
      cases hcl : isT [41] r2 with
      | false =>
        have HIc : Hid (∀ u, Below w.heap.size w u → Calls Tryz.prog 65 #[.slice ra r2.length rc, .string ⟨#[41]⟩] u fun e w' => e = .returned (.bool false) ∧ w' = u) := Lib.hid fun u hb => by rw [← hcl]; exact HIc0.out u hb
        simp only [Bool.false_eq_true, if_false]
        clear HIc0
        go_wp2_with (first
          | (go_at_call_of 65 (Value.string ⟨#[41]⟩); refine (HIc.out _ hR.below).mono ?_; rintro e wic ⟨rfl, rfl⟩)
          | (refine wQ_store rfl _ _ _ (by rfl) (by exact hR) g0 rfl #[.int .i64 0, .int .i64 0, .string ⟨#[]⟩, .string ⟨#[]⟩, .slice none 0 0] (by rfl) _ _ _ (by repeat (first | exact Pick.here | apply Pick.there)) (by kernel_rfl) (by kernel_rfl) (by kernel_rfl) ?_; intro w5 hR hsm7 hsz7))
        all_goals
          refine bodyPost_rws3 rfl (by assumption) g0 rfl _ _ (List.Mem.head _) _ Tryz.underlying24 rfl (by kernel_rfl) _ _ rfl rfl rfl (fun hbz => ?_)
          exact ⟨⟨_, _, _, _, _, _, _, _, rfl⟩, hbz⟩
      | true =>
        have HIc : Hid (∀ u, Below w.heap.size w u → Calls Tryz.prog 65 #[.slice ra r2.length rc, .string ⟨#[41]⟩] u fun e w' => e = .returned (.bool true) ∧ w' = u) := Lib.hid fun u hb => by rw [← hcl]; exact HIc0.out u hb
        obtain ⟨r3, rfl⟩ := isT_head hcl
        simp only [if_true, List.tail_cons]
        obtain ⟨b2, f2, had2, _⟩ := HSR.out.at_
        have hle2 := HSR.out.le
        have hcm2 := HSR.out.cm
        obtain rfl : ra = some ⟨b2, f2, none⟩ := by rcases had2 with h | ⟨_, h⟩; exact h; simp at h
        have hln2 : (([41], false) :: r3 : List Tok).length = r3.length + 1 := rfl
        rw [hln2] at HIc hle2 ⊢
        obtain ⟨A2, hA2, hT2⟩ : ∃ A, A = (if rc = 1 then some ⟨b2, f2, none⟩ else some ⟨b2, f2 + 2, none⟩) ∧ SlT w0 r3 A (rc - 1) := ⟨_, rfl, HSR.out.tail⟩
        have HT2 := Lib.hid hT2
        have hlz2 : (1 : Int) ≤ (r3.length : Int) + 1 := by omega
        have hAc2 : (rc = 1 ∧ A2 = some ⟨b2, f2, none⟩) ∨ (¬ rc = 1 ∧ A2 = some ⟨b2, f2 + 2, none⟩) := by
          by_cases h : rc = 1
          · left; exact ⟨h, by rw [hA2, if_pos h]⟩
          · right; exact ⟨h, by rw [hA2, if_neg h]⟩
        clear HIc0 hcl had2 hln2 hA2 hT2 HSR
        go_upto_region 5 with (go_at_call_of 65 (Value.string ⟨#[41]⟩); refine (HIc.out _ hR.below).mono ?_; rintro e wic ⟨rfl, rfl⟩)
        have x0 := hR.cellAt (g := g0) (by repeat (first | exact List.Mem.head _ | refine List.Mem.tail _ ?_)) 0 rfl; have t0 := hR.thaw (g := g0) (by repeat (first | exact List.Mem.head _ | refine List.Mem.tail _ ?_)) 0; have y0 := hR.cellAt (g := g5) (List.Mem.head _) 0 rfl; have x1 := hR.cellAt (g := g0) (by repeat (first | exact List.Mem.head _ | refine List.Mem.tail _ ?_)) 1 rfl; have t1 := hR.thaw (g := g0) (by repeat (first | exact List.Mem.head _ | refine List.Mem.tail _ ?_)) 1; have y1 := hR.cellAt (g := g5) (List.Mem.head _) 1 rfl; have x2 := hR.cellAt (g := g0) (by repeat (first | exact List.Mem.head _ | refine List.Mem.tail _ ?_)) 2 rfl; have t2 := hR.thaw (g := g0) (by repeat (first | exact List.Mem.head _ | refine List.Mem.tail _ ?_)) 2; have y2 := hR.cellAt (g := g5) (List.Mem.head _) 2 rfl; have x3 := hR.cellAt (g := g0) (by repeat (first | exact List.Mem.head _ | refine List.Mem.tail _ ?_)) 3 rfl; have t3 := hR.thaw (g := g0) (by repeat (first | exact List.Mem.head _ | refine List.Mem.tail _ ?_)) 3; have y3 := hR.cellAt (g := g5) (List.Mem.head _) 3 rfl; have x4 := hR.cellAt (g := g0) (by repeat (first | exact List.Mem.head _ | refine List.Mem.tail _ ?_)) 4 rfl; have t4 := hR.thaw (g := g0) (by repeat (first | exact List.Mem.head _ | refine List.Mem.tail _ ?_)) 4; have y4 := hR.cellAt (g := g5) (List.Mem.head _) 4 rfl
        have hR3 := (((((hR.swap.drew.setc 0 (.int .i64 q.k)).setc 1 (.int .i64 q.o)).setc 2 (.string q.n)).setc 3 (.string q.t)).setc 4 (.slice ap q.kids.len cp))
        have HR3 := Lib.hid hR3
        have HSAME : Hid (∀ k, k ≠ g0 → (((((wic.drew.setCell ⟨g0, 0, none⟩ (.int .i64 q.k)).setCell ⟨g0, 1, none⟩ (.int .i64 q.o)).setCell ⟨g0, 2, none⟩ (.string q.n)).setCell ⟨g0, 3, none⟩ (.string q.t)).setCell ⟨g0, 4, none⟩ (.slice ap q.kids.len cp)).heap[k]? = wic.heap[k]?) := Lib.hid fun k hk => by
          rw [heap_setCell_other _ ⟨g0, 4, none⟩ k _ hk, heap_setCell_other _ ⟨g0, 3, none⟩ k _ hk, heap_setCell_other _ ⟨g0, 2, none⟩ k _ hk, heap_setCell_other _ ⟨g0, 1, none⟩ k _ hk, heap_setCell_other _ ⟨g0, 0, none⟩ k _ hk]; rfl
        clear hR3
        rcases hAc2 with ⟨rfl, rfl⟩ | ⟨hc2, rfl⟩
        · obtain rfl : r3 = [] := List.eq_nil_of_length_eq_zero (by omega)
          go_region
          all_goals
            go_wp2_with fail
            refine bodyPost_rws3 rfl HR3.out g0 rfl _ _ (List.Mem.head _) _ Tryz.underlying24 rfl (by kernel_rfl) _ _ rfl rfl rfl (fun hbz => ?_)
            exact ⟨⟨_, _, _, _, rfl, HQ.out.same (fun k hk _ => hk.1) (fun k hk hlt => HSAME.out k hk.2), HT2.out⟩, hpn, hpt, hbz⟩
        · go_region
          all_goals
            go_wp2_with fail
            refine bodyPost_rws3 rfl HR3.out g0 rfl _ _ (List.Mem.head _) _ Tryz.underlying24 rfl (by kernel_rfl) _ _ rfl rfl rfl (fun hbz => ?_)
            exact ⟨⟨_, _, _, _, rfl, HQ.out.same (fun k hk _ => hk.1) (fun k hk hlt => HSAME.out k hk.2), HT2.out⟩, hpn, hpt, hbz⟩
end Go.Proofs.YthpagppipifgeaaGreatDoor
