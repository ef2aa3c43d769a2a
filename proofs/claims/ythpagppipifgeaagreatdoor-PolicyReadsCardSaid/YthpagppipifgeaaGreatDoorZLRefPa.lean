/- ostiaryref20.Parse: the walk, over many's. -/
import Derived.Test.YthpagppipifgeaaGreatDoorZLM
import Derived.Test.YthpagppipifgeaaGreatDoorZLRefC
import Derived.Test.YthpagppipifgeaaGreatDoorZLBackL
namespace Go.Proofs.YthpagppipifgeaaGreatDoor
open Go.RowKit

set_option maxRecDepth 100000 in
set_option maxHeartbeats 8000000 in
theorem refParse_any (hM : ∀ f, ManyAt f 1) (s : ByteArray) (w : World) : Calls Tryz.prog 17 #[.string s] w (PRet (ParseR s.data.toList) w) := by
  have hbs : bs s.data.toList = s := by cases s; simp [bs]
  obtain ⟨l, hl⟩ : ∃ l, l = s.data.toList := ⟨_, rfl⟩
  rw [← hl] at hbs ⊢
  rw [← hbs]
  clear hl hbs
  have hsz := bs_size l
  have hR := Rws.start w
  by_cases hlen : 1024 < l.length
  · rw [show ParseR l = (zPo, 201) by unfold ParseR; rw [if_pos hlen]]
    have hz : (1024 : Int) < (l.length : Int) := by omega
    go_enter Tryz.func17, Tryz.ntmps17
    go_upto_region 1 with (refine wQ_alloc (cs := zP) rfl _ (by rfl) (by assumption) zero_pol ?_; intro g0 w1 hR hbg0 hg0)
    go_wp2_with (refine wQ_store rfl _ _ _ (by rfl) (by exact hR) g0 rfl #[.int .i64 0, .int .i64 0, .string ⟨#[]⟩, .string ⟨#[]⟩, .slice none 0 0] (by rfl) _ _ _ (by repeat (first | exact Pick.here | apply Pick.there)) (by kernel_rfl) (by kernel_rfl) (by kernel_rfl) ?_; intro w2 hR hsm hsz)
    refine bodyPost_rws2 rfl hR g0 rfl _ _ (List.Mem.head _) _ Tryz.underlying24 rfl (by kernel_rfl) _ rfl rfl (fun hbz => ?_)
    exact z_ret 201 w _ hbz
  have hz : ¬ (1024 : Int) < (l.length : Int) := by omega
  obtain ⟨htl, hlits⟩ := TK_len _ l (Nat.le_refl _)
  have hT : ∀ u, Calls Tryz.prog 36 #[.string (bs l)] u (TokPost l u) := fun u => tokens_any l u (by omega)
  have hP : ParseR l = (match parseK l with
    | none => (zPo, 200)
    | some p => if smallP p.kids then (p, 0) else (zPo, 201)) := by unfold ParseR; rw [if_neg hlen, parseT_K]; rfl
  rw [hP]
  unfold parseK
  cases hok : (TK l).2 with
  | false =>
    have HT : Hid (∀ u, Calls Tryz.prog 36 #[.string (bs l)] u fun e w' => e = .returned (.tuple #[.slice none 0 0, .bool false]) ∧ Below u.heap.size u w') := Lib.hid fun u => (hT u).mono fun e w' h => by
      unfold TokPost at h; rw [hok] at h; exact h
    simp only [Bool.false_eq_true, if_false]
    clear hT hP hok htl hlits
    go_enter Tryz.func17, Tryz.ntmps17
    go_upto_region 1 with (refine wQ_alloc (cs := zP) rfl _ (by rfl) (by assumption) zero_pol ?_; intro g0 w1 hR hbg0 hg0)
    go_wp2_with (first
      | (go_at_call 36; refine (HT.out _).mono ?_; rintro e w2 ⟨rfl, hb⟩; have hR := hR.call hb)
      | (refine wQ_store rfl _ _ _ (by rfl) (by exact hR) g0 rfl #[.int .i64 0, .int .i64 0, .string ⟨#[]⟩, .string ⟨#[]⟩, .slice none 0 0] (by rfl) _ _ _ (by repeat (first | exact Pick.here | apply Pick.there)) (by kernel_rfl) (by kernel_rfl) (by kernel_rfl) ?_; intro w3 hR hsm hsz))
    refine bodyPost_rws2 rfl hR g0 rfl _ _ (List.Mem.head _) _ Tryz.underlying24 rfl (by kernel_rfl) _ rfl rfl (fun hbz => ?_)
    exact z_ret 200 w _ hbz
  | true =>
    have HT : Hid (∀ u, Calls Tryz.prog 36 #[.string (bs l)] u fun e w' => (∃ ad c, e = .returned (.tuple #[.slice ad (TK l).1.length c, .bool true]) ∧ SlT w' (TK l).1 ad c) ∧ Below u.heap.size u w') := Lib.hid fun u => (hT u).mono fun e w' h => by
      unfold TokPost at h; rw [hok] at h; exact h
    simp only [if_true]
    have hfu : 4 * (TK l).1.length + 1 + 2 ≤ 4 * l.length + 3 := by omega
    have HM : Hid (∀ w0 u ad c, Below w0.heap.size w0 u → SlT w0 (TK l).1 ad c → Calls Tryz.prog 37 #[.slice ad (TK l).1.length c, .int .i64 3] u (PKq (parseL (4 * l.length + 3) 2 (TK l).1) w0 u)) := Lib.hid fun w0 u ad c hb hs => hM (4 * l.length + 3) (TK l).1 ad c w0 u hfu hb hs
    have hmay : ∀ p r, parseL (4 * l.length + 3) 2 (TK l).1 = some (p, r) → mayQ p = true ∧ p.kids.cnt ≤ 1000000 := fun p r e => by
      obtain ⟨h1, h2, _⟩ := (both_may _).1 2 _ hlits _ _ e
      exact ⟨h1, by omega⟩
    have HMY := Lib.hid hmay
    clear hT hP hok htl hlits hfu hmay
    generalize (TK l).1 = ts at *
    cases hr : parseL (4 * l.length + 3) 2 ts with
    | none =>
      rw [hr] at HM
      simp only
      clear hr HMY
      go_enter Tryz.func17, Tryz.ntmps17
      go_upto_region 1 with (refine wQ_alloc (cs := zP) rfl _ (by rfl) (by assumption) zero_pol ?_; intro g0 w1 hR hbg0 hg0)
      go_wp2_with (first
        | (go_at_call 36; refine (HT.out _).mono ?_; rintro e w2 ⟨⟨at_, ct, rfl, hst⟩, hb⟩; have hR := hR.call hb)
        | (go_at_call 37; refine (HM.out _ _ _ _ (Below.refl _ _) hst).mono ?_; rintro e w3 ⟨⟨k, o, n, t, ad, l', c', rs, rfl⟩, hb3⟩; have hR := hR.call hb3)
        | (refine wQ_alloc (cs := zP) rfl _ (by rfl) (by assumption) zero_pol ?_; intro g6 w4 hR hbg6 hg6)
        | (refine wQ_store rfl _ _ _ (by rfl) (by exact hR) g6 rfl #[.int .i64 k, .int .i64 o, .string n, .string t, .slice ad l' c'] (by rfl) _ _ _ (by repeat (first | exact Pick.here | apply Pick.there)) (by kernel_rfl) (by kernel_rfl) (by kernel_rfl) ?_; intro w5 hR hsm hsz)
        | (refine wQ_store rfl _ _ _ (by rfl) (by exact hR) g0 rfl #[.int .i64 0, .int .i64 0, .string ⟨#[]⟩, .string ⟨#[]⟩, .slice none 0 0] (by rfl) _ _ _ (by repeat (first | exact Pick.here | apply Pick.there)) (by kernel_rfl) (by kernel_rfl) (by kernel_rfl) ?_; intro w6 hR hsm7 hsz7))
      refine bodyPost_rws2 rfl hR g0 rfl _ _ (List.Mem.head _) _ Tryz.underlying24 rfl (by kernel_rfl) _ rfl rfl (fun hbz => ?_)
      exact z_ret 200 w _ hbz
    | some pr =>
      obtain ⟨p, r⟩ := pr
      obtain ⟨hm, hcn⟩ := HMY.out p r hr
      rw [hr] at HM
      simp only
      clear hr HMY
      cases r with
      | cons x r =>
        have hlr : (0 : Int) < (((x :: r : List Tok).length : Nat) : Int) := by simp only [List.length_cons]; omega
        rw [if_neg (by simp)]
        generalize (x :: r : List Tok) = r2 at *
        go_enter Tryz.func17, Tryz.ntmps17
        go_upto_region 1 with (refine wQ_alloc (cs := zP) rfl _ (by rfl) (by assumption) zero_pol ?_; intro g0 w1 hR hbg0 hg0)
        go_wp2_with (first
          | (go_at_call 36; refine (HT.out _).mono ?_; rintro e w2 ⟨⟨at_, ct, rfl, hst⟩, hb⟩; have hR := hR.call hb)
          | (go_at_call 37; refine (HM.out _ _ _ _ (Below.refl _ _) hst).mono ?_; rintro e w3 ⟨⟨ap, cp, ra, rc, rfl, hsl, hsr⟩, hpn, hpt, hb3⟩; have hR := hR.call hb3)
          | (refine wQ_alloc (cs := zP) rfl _ (by rfl) (by assumption) zero_pol ?_; intro g6 w4 hR hbg6 hg6)
          | (refine wQ_store rfl _ _ _ (by rfl) (by exact hR) g6 rfl #[.int .i64 p.k, .int .i64 p.o, .string p.n, .string p.t, .slice ap p.kids.len cp] (by rfl) _ _ _ (by repeat (first | exact Pick.here | apply Pick.there)) (by kernel_rfl) (by kernel_rfl) (by kernel_rfl) ?_; intro w5 hR hsm hsz)
          | (refine wQ_store rfl _ _ _ (by rfl) (by exact hR) g0 rfl #[.int .i64 0, .int .i64 0, .string ⟨#[]⟩, .string ⟨#[]⟩, .slice none 0 0] (by rfl) _ _ _ (by repeat (first | exact Pick.here | apply Pick.there)) (by kernel_rfl) (by kernel_rfl) (by kernel_rfl) ?_; intro w6 hR hsm7 hsz7))
        refine bodyPost_rws2 rfl hR g0 rfl _ _ (List.Mem.head _) _ Tryz.underlying24 rfl (by kernel_rfl) _ rfl rfl (fun hbz => ?_)
        exact z_ret 200 w _ hbz
      | nil =>
        rw [if_pos rfl]
        simp only
        have HCK : Hid (∀ u ad c, p.n.size ≤ SB → p.t.size ≤ SB → SlF u p.kids ad c → Calls Tryz.prog 12 #[pv p.k p.o p.n p.t ad p.kids.len c] u (RetI (if smallP p.kids then 0 else 201) u)) := Lib.hid fun u ad c hn ht hs => by
          have h := CheckR_any p.k p.o p.n p.t p.kids ad c u hn ht hs hcn
          unfold chkP at h
          rw [if_pos (show mayP p.k p.o p.n p.t p.kids = true from hm)] at h
          exact h
        clear hm hcn
        cases hsm0 : smallP p.kids with
        | false =>
          rw [hsm0] at HCK
          simp only [Bool.false_eq_true, if_false] at HCK ⊢
          clear hsm0
          go_enter Tryz.func17, Tryz.ntmps17
          go_upto_region 1 with (refine wQ_alloc (cs := zP) rfl _ (by rfl) (by assumption) zero_pol ?_; intro g0 w1 hR hbg0 hg0)
          go_upto_region 9 with (first
            | (go_at_call 36; refine (HT.out _).mono ?_; rintro e w2 ⟨⟨at_, ct, rfl, hst⟩, hb⟩; have hR := hR.call hb)
            | (go_at_call 37; refine (HM.out _ _ _ _ (Below.refl _ _) hst).mono ?_; rintro e w3 ⟨⟨ap, cp, ra, rc, rfl, hsl, hsr⟩, hpn, hpt, hb3⟩; have hR := hR.call hb3)
            | (refine wQ_alloc (cs := zP) rfl _ (by rfl) (by assumption) zero_pol ?_; intro g6 w4 hR hbg6 hg6)
            | (refine wQ_store rfl _ _ _ (by rfl) (by exact hR) g6 rfl #[.int .i64 p.k, .int .i64 p.o, .string p.n, .string p.t, .slice ap p.kids.len cp] (by rfl) _ _ _ (by repeat (first | exact Pick.here | apply Pick.there)) (by kernel_rfl) (by kernel_rfl) (by kernel_rfl) ?_; intro w5 hR hsm hsz))
          have hs5 : SlF w5 p.kids ap cp := (hsl.same (Q' := fun _ => True) (fun _ _ _ => trivial) (fun k _ hlt => (hsm k (by omega)).trans (hbg6.block k hlt))).slf
          go_wp2_with (first
            | (refine wpList_load_rws rfl _ _ (by rfl) (by assumption) _ rfl _ _ (by repeat (first | exact List.Mem.head _ | refine List.Mem.tail _ ?_)) _ Tryz.underlying24 rfl (by kernel_rfl) ?_)
            | (go_at_call 12; refine (HCK.out _ _ _ hpn hpt hs5).mono ?_; rintro e w6 ⟨rfl, hb6⟩; have hR := hR.call hb6)
            | (refine wQ_store rfl _ _ _ (by rfl) (by exact hR) g0 rfl #[.int .i64 0, .int .i64 0, .string ⟨#[]⟩, .string ⟨#[]⟩, .slice none 0 0] (by rfl) _ _ _ (by repeat (first | exact Pick.here | apply Pick.there)) (by kernel_rfl) (by kernel_rfl) (by kernel_rfl) ?_; intro w7 hR hsm7 hsz7))
          refine bodyPost_rws2 rfl hR g0 rfl _ _ (List.Mem.head _) _ Tryz.underlying24 rfl (by kernel_rfl) _ rfl rfl (fun hbz => ?_)
          exact z_ret 201 w _ hbz
        | true =>
          rw [hsm0] at HCK
          simp only [if_true] at HCK ⊢
          clear hsm0
          go_enter Tryz.func17, Tryz.ntmps17
          go_upto_region 1 with (refine wQ_alloc (cs := zP) rfl _ (by rfl) (by assumption) zero_pol ?_; intro g0 w1 hR hbg0 hg0)
          have hw1 := hbg0.size
          have hg0l : g0 < w1.heap.size := hR.lt (List.Mem.head _)
          go_upto_region 9 with (first
            | (go_at_call 36; refine (HT.out _).mono ?_; rintro e w2 ⟨⟨at_, ct, rfl, hst⟩, hb⟩; have hR := hR.call hb)
            | (go_at_call 37; refine (HM.out _ _ _ _ (Below.refl _ _) hst).mono ?_; rintro e w3 ⟨⟨ap, cp, ra, rc, rfl, hsl, hsr⟩, hpn, hpt, hb3⟩; have hR := hR.call hb3)
            | (refine wQ_alloc (cs := zP) rfl _ (by rfl) (by assumption) zero_pol ?_; intro g6 w4 hR hbg6 hg6)
            | (refine wQ_store rfl _ _ _ (by rfl) (by exact hR) g6 rfl #[.int .i64 p.k, .int .i64 p.o, .string p.n, .string p.t, .slice ap p.kids.len cp] (by rfl) _ _ _ (by repeat (first | exact Pick.here | apply Pick.there)) (by kernel_rfl) (by kernel_rfl) (by kernel_rfl) ?_; intro w5 hR hsm hsz))
          have hz2 := hb.size
          have hs5 : SlQ (fun k => w.heap.size ≤ k ∧ k ≠ g0 ∧ k < w5.heap.size) w5 p.kids ap cp := hsl.same (fun k hk hlt => ⟨by omega, by omega, by have := hbg6.size; omega⟩) (fun k hk hlt => (hsm k (by omega)).trans (hbg6.block k hlt))
          have HQ := Lib.hid hs5
          have hsf := hs5.slf
          clear hsl hs5 hsr hst
          go_wp2_with (first
            | (refine wpList_load_rws rfl _ _ (by rfl) (by assumption) _ rfl _ _ (by repeat (first | exact List.Mem.head _ | refine List.Mem.tail _ ?_)) _ Tryz.underlying24 rfl (by kernel_rfl) ?_)
            | (go_at_call 12; refine (HCK.out _ _ _ hpn hpt hsf).mono ?_; rintro e w6 ⟨rfl, hb6⟩; have hR := hR.call hb6)
            | (refine wQ_store rfl _ _ _ (by rfl) (by exact hR) g0 rfl #[.int .i64 p.k, .int .i64 p.o, .string p.n, .string p.t, .slice ap p.kids.len cp] (by rfl) _ _ _ (by repeat (first | exact Pick.here | apply Pick.there)) (by kernel_rfl) (by kernel_rfl) (by kernel_rfl) ?_; intro w7 hR hsm7 hsz7))
          refine bodyPost_rws2 rfl hR g0 rfl _ _ (List.Mem.head _) _ Tryz.underlying24 rfl (by kernel_rfl) _ rfl rfl (fun hbz => ?_)
          exact ⟨⟨ap, cp, rfl, HQ.out.same (fun k hk _ => hk.1) (fun k hk _ => (hsm7 k hk.2.1).trans (hb6.block k hk.2.2))⟩, hpn, hpt, hbz⟩
end Go.Proofs.YthpagppipifgeaaGreatDoor
