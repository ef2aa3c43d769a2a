/- reader.one: the walk. -/
import Derived.Test.YthpagppipifgeaaGreatDoorZLList
namespace Go.Proofs.YthpagppipifgeaaGreatDoor
open Go.RowKit

def OneAt (rb F : Nat) : Prop := ∀ s w, At rb s w → s.length ≤ 1024 → 4 * s.length + 1 ≤ F → Calls Tryz.prog 95 #[.pointer (some ⟨rb, 0, none⟩)] w (PQ rb (parseS F 0 s) w)
def EitherAt (rb F : Nat) : Prop := ∀ s w, At rb s w → s.length ≤ 1024 → 4 * s.length + 3 ≤ F → Calls Tryz.prog 58 #[.pointer (some ⟨rb, 0, none⟩)] w (PQ rb (parseS F 2 s) w)
/-- A slice of one policy, built in a new block. -/
theorem one_slq {Q : Nat → Prop} {w w7 : World} {g : Nat} (p : Po) (ap : Option Addr) (cp : Nat) (hg : w.heap.size = g) (hQ : Q g) (hs : w7.heap[g]? = (w.alloc (.cells #[.int .i64 p.k, .int .i64 p.o, .string p.n, .string p.t, .slice ap p.kids.len cp] 24)).heap[g]?)
    (hn : p.n.size ≤ SB) (ht : p.t.size ≤ SB) (hk : SlQ Q w7 p.kids ap cp) : SlQ Q w7 (.cons p.k p.o p.n p.t p.kids .nil) (some ⟨g, 0, none⟩) 1 := by
  have hc : Chk Q w7 (.cons p.k p.o p.n p.t p.kids .nil) (pcl p ap cp) := ⟨ap, cp, [], by simp, hn, ht, hk, rfl⟩
  refine ⟨Nat.le_refl _, by decide, g, 0, Or.inl rfl, hc.row hQ fun j v hj => ?_⟩
  rw [World.cell?_of_block (w := w.alloc _) (w' := w7) hs]
  exact new_cell hg _ _ (0 + j) (by rw [Nat.zero_add]; simpa [pcl] using hj)
theorem test_pq (rb : Nat) (sub s : List UInt8) (w : World) (ha : At rb s w) (hs : s.length ≤ 1024) (hl : sub.length ≤ 1024) :
    Calls Tryz.prog 111 #[.pointer (some ⟨rb, 0, none⟩), .string (bs sub)] w (PQ rb (testS sub s) w) := by
  refine (test_any rb sub s w ha hs hl).mono fun e w' h => ?_
  unfold POut at h
  unfold PQ
  cases hr : testS sub s with
  | none => rw [hr] at h; exact h
  | some q =>
    obtain ⟨p, r⟩ := q
    rw [hr] at h
    simp only at h ⊢
    obtain ⟨⟨ad, c, rfl, hsl⟩, h1, h2, h3, h4⟩ := h
    have hk : p.kids = .nil := by
      unfold testS at hr
      split at hr
      · cases hr
      · split at hr
        · cases hr
        · split at hr
          · cases hr
          · cases hr; rfl
    refine ⟨⟨ad, c, rfl, ?_⟩, h1, h2, h3, h4⟩
    obtain ⟨a1, a2, b, f, a3, _⟩ := hsl
    rw [hk] at a1 a3 ⊢
    exact ⟨a1, a2, b, f, a3, trivial⟩
theorem zP_cells : zP = #[.int .i64 0, .int .i64 0, .string ⟨#[]⟩, .string ⟨#[]⟩, .slice none 0 0] := rfl

set_option maxRecDepth 100000 in
set_option maxHeartbeats 4000000 in
theorem one_any (rb F' : Nat) (h0 : OneAt rb F') (h2 : EitherAt rb F') : OneAt rb (F' + 1) := by
  intro s w ha hs hF
  have H0 := Lib.hid h0; have H2 := Lib.hid h2
  clear h0 h2
  rw [parseS_one]
  have hrb := ha.lt
  have hne := err_neq
  have hnn := nil_neq
  have hng := nil_guard
  have heg := err_guard
  have hP : Hid (Calls Tryz.prog 59 #[.pointer (some ⟨rb, 0, none⟩)] w (PeekPost rb s w) → True) := Lib.hid fun _ => trivial
  clear hP
  have htl := trL_le s
  have htt := trL_trL s
  have HTT := Lib.hid htt
  clear htt
  obtain ⟨u, hu⟩ : ∃ u, u = trL s := ⟨_, rfl⟩
  rw [← hu] at htl HTT
  have HPK : Hid (∀ w, At rb s w → Calls Tryz.prog 59 #[.pointer (some ⟨rb, 0, none⟩)] w fun e w' => e = .returned (.tuple #[.string (bs (peekS u).1), .int .u8 ((peekS u).2 : Nat)]) ∧ Mv rb u w w') := Lib.hid fun w ha => by
    have := peek_any rb s w ha (by omega)
    unfold PeekPost at this
    rw [← hu] at this
    exact this
  have hone : oneS (parseS F') s = (if (peekS u).2 = 40 then (match parseS F' 2 (u.drop 1) with
    | none => none
    | some (q, r) => if (peekS (trL r)).2 = 41 then some (q, (trL r).drop 1) else none)
  else match wordS sAlways u with
    | some r => some (⟨0, 0, e0, e0, .nil⟩, r)
    | none => match wordS sNot u with
      | some r => (match parseS F' 0 r with
        | none => none
        | some (q, r') => some (⟨1, 0, e0, e0, .cons q.k q.o q.n q.t q.kids .nil⟩, r'))
      | none => if (peekS u).2 = 119 then testS (peekS u).1 (u.drop (peekS u).1.length) else none) := by
    unfold oneS; rw [← hu]; rfl
  rw [hone]
  have hfst := peek_fst_le u
  clear hone hu
  have hR := Rws.start w
  by_cases hk : (peekS u).2 = 40
  · rw [if_pos hk]
    have hp1 : (peekS u).1.length = 1 := by
      cases hc : u with
      | nil => rw [hc] at hk; simp [peekS] at hk
      | cons c r =>
        rw [hc] at hk
        unfold peekS at hk ⊢
        simp only at hk ⊢
        split at hk
        · next h => rw [if_pos h]; rfl
        · split at hk <;> simp at hk
    have hul : 1 ≤ u.length := by omega
    rw [hk] at HPK
    generalize (peekS u).1 = tok at *
    have hts : (bs tok).size = 1 := by rw [bs_size]; exact hp1
    have HSK : Hid (∀ w1, At rb u w1 → Calls Tryz.prog 110 #[.pointer (some ⟨rb, 0, none⟩), .string (bs tok)] w1 fun e w' => e = .returned (.tuple #[]) ∧ Mv rb (u.drop 1) w1 w') := Lib.hid fun w1 ha => by
      have := skip_any rb u (bs tok) w1 ha (by rw [hts]; exact hul)
      rw [hts] at this
      exact this
    have hdl : (u.drop 1).length + 1 = u.length := by rw [List.length_drop]; omega
    clear hk hp1 hts
    cases hr : parseS F' 2 (u.drop 1) with
    | none =>
      go_enter Tryz.func95, Tryz.ntmps95
      go_upto_region 1 with (refine wQ_alloc (cs := zP) rfl _ (by rfl) (by assumption) zero_pol ?_; intro g0 w1 hR hbg0 hg0)
      have hg0l : g0 < w1.heap.size := hR.lt (List.Mem.head _)
      go_wp2_with (first
        | (go_at_call 59; refine (HPK.out _ (hR.at_ ha hrb)).mono ?_; rintro e w2 ⟨rfl, hm2⟩; obtain ⟨n2, hR, HM2, hz2⟩ := hR.move ha hrb rfl hm2) | (go_at_call 110; refine (HSK.out _ (hR.at_ HM2.at_ hrb)).mono ?_; rintro e w3 ⟨rfl, hm3⟩; obtain ⟨n3, hR, HM3, hz3⟩ := hR.move HM2.at_ hrb hz2 hm3) | (go_at_call 58; refine (H2.out _ _ (hR.at_ HM3.at_ hrb) (by omega) (by omega)).mono ?_; rw [hr]; rintro e w4 ⟨⟨k, o, n, t, ad, l, c, why, rfl⟩, uu, huu, hm4⟩; obtain ⟨n4, hR, HM4, hz4⟩ := hR.move HM3.at_ hrb hz3 hm4)
        | (refine wQ_alloc (cs := zP) rfl _ (by rfl) (by assumption) zero_pol ?_; intro g1 w5 hR hbg1 hg1) | (refine wpList_load_rws rfl _ _ (by rfl) (by assumption) _ rfl _ _ (by repeat (first | exact List.Mem.head _ | refine List.Mem.tail _ ?_)) _ Tryz.underlying24 rfl (by kernel_rfl) ?_) | (refine wQ_store rfl _ _ _ (by rfl) (by assumption) _ rfl #[.int .i64 k, .int .i64 o, .string n, .string t, .slice ad l c] (by rfl) _ _ _ (by repeat (first | exact Pick.here | apply Pick.there)) (by kernel_rfl) (by kernel_rfl) (by kernel_rfl) ?_; intro w6 hR hsm hsz))
      refine bodyPost_rws2 rfl (by assumption) g0 rfl _ _ (List.Mem.head _) _ Tryz.underlying24 rfl (by kernel_rfl) _ rfl rfl (fun hbz => ?_)
      exact ⟨⟨_, _, _, _, _, _, _, why, rfl⟩, uu, huu, (((HM2.trans HM3).trans HM4)).then (hz4.symm ▸ hbz)⟩
    | some p =>
      obtain ⟨p, r⟩ := p
      simp only
      have hpl := parseS_le hr
      have htr := trL_le r
      have HPR : Hid (∀ w, At rb r w → Calls Tryz.prog 59 #[.pointer (some ⟨rb, 0, none⟩)] w fun e w' => e = .returned (.tuple #[.string (bs (peekS (trL r)).1), .int .u8 ((peekS (trL r)).2 : Nat)]) ∧ Mv rb (trL r) w w') := Lib.hid fun w ha => peek_any rb r w ha (by omega)
      have hf2 := peek_fst_le (trL r)
      have hk2 : (peekS (trL r)).2 = 41 → 1 ≤ (trL r).length := fun h => by
        cases hc : trL r with
        | nil => rw [hc] at h; simp [peekS] at h
        | cons => simp
      generalize trL r = v at *
      generalize (peekS v).2 = k2 at *
      generalize (peekS v).1 = tok2 at *
      by_cases hb : k2 = 41
      · subst hb
        have hv1 := hk2 rfl
        simp only [if_true]
        have HS2 : Hid (∀ w1, At rb v w1 → Calls Tryz.prog 110 #[.pointer (some ⟨rb, 0, none⟩), .string ⟨#[41]⟩] w1 fun e w' => e = .returned (.tuple #[]) ∧ Mv rb (v.drop 1) w1 w') := Lib.hid fun w1 ha => skip_any rb v ⟨#[41]⟩ w1 ha hv1
        clear hk2
        go_enter Tryz.func95, Tryz.ntmps95
        go_upto_region 1 with (refine wQ_alloc (cs := zP) rfl _ (by rfl) (by assumption) zero_pol ?_; intro g0 w1 hR hbg0 hg0)
        have hg0l : g0 < w1.heap.size := hR.lt (List.Mem.head _)
        go_upto_region 7 with (first
          | (go_at_call 59; refine (HPK.out _ (hR.at_ ha hrb)).mono ?_; rintro e w2 ⟨rfl, hm2⟩; obtain ⟨n2, hR, HM2, hz2⟩ := hR.move ha hrb rfl hm2) | (go_at_call 110; refine (HSK.out _ (hR.at_ HM2.at_ hrb)).mono ?_; rintro e w3 ⟨rfl, hm3⟩; obtain ⟨n3, hR, HM3, hz3⟩ := hR.move HM2.at_ hrb hz2 hm3) | (go_at_call 58; refine (H2.out _ _ (hR.at_ HM3.at_ hrb) (by omega) (by omega)).mono ?_; rw [hr]; rintro e w4 ⟨⟨ap, cp, rfl, hsl⟩, hpn, hpt, hrl, hm4⟩; obtain ⟨n4, hR, HM4, hz4⟩ := hR.move HM3.at_ hrb hz3 hm4)
          | (refine wQ_alloc (cs := zP) rfl _ (by rfl) (by assumption) zero_pol ?_; intro g1 w5 hR hbg1 hg1) | (refine wQ_store rfl _ _ _ (by rfl) (by assumption) _ rfl #[.int .i64 p.k, .int .i64 p.o, .string p.n, .string p.t, .slice ap p.kids.len cp] (by rfl) _ _ _ (by repeat (first | exact Pick.here | apply Pick.there)) (by kernel_rfl) (by kernel_rfl) (by kernel_rfl) ?_; intro w6 hR hsm hsz))
        have hz13 : w1.heap.size ≤ w3.heap.size := Nat.le_trans hm2.size hm3.size
        have hsl6 : SlQ (fun k => w.heap.size ≤ k ∧ k ≠ g0 ∧ k ≠ g1) w6 p.kids ap cp := hsl.same (fun k hk hlt => ⟨by have := hbg0.size; omega, by omega, by omega⟩) (fun k hk hlt => (hsm k (by omega)).trans (hbg1.block k hlt))
        have HK6 := Lib.hid hsl6
        clear hsl hsl6 hsm hsz hm2 hm3 hm4 hbg1
        go_wp2_with (first
          | (go_at_call 59; refine (HPR.out _ (hR.at_ HM4.at_ hrb)).mono ?_; rintro e w7 ⟨rfl, hm7⟩; obtain ⟨n7, hR, HM7, hz7⟩ := hR.move HM4.at_ hrb hz4 hm7)
          | (go_at_call 110; refine (HS2.out _ (hR.at_ HM7.at_ hrb)).mono ?_; rintro e w8 ⟨rfl, hm8⟩; obtain ⟨n8, hR, HM8, hz8⟩ := hR.move HM7.at_ hrb hz7 hm8)
          | (refine wpList_load_rws rfl _ _ (by rfl) (by assumption) _ rfl _ _ (by repeat (first | exact List.Mem.head _ | refine List.Mem.tail _ ?_)) _ Tryz.underlying24 rfl (by kernel_rfl) ?_) | (refine wQ_store rfl _ _ _ (by rfl) (by assumption) _ rfl #[.int .i64 p.k, .int .i64 p.o, .string p.n, .string p.t, .slice ap p.kids.len cp] (by rfl) _ _ _ (by repeat (first | exact Pick.here | apply Pick.there)) (by kernel_rfl) (by kernel_rfl) (by kernel_rfl) ?_; intro w9 hR hsm9 hsz9))
        refine bodyPost_rws2 rfl (by assumption) g0 rfl _ _ (List.Mem.head _) _ Tryz.underlying24 rfl (by kernel_rfl) _ rfl rfl (fun hbz => ?_)
        have hz69 : w6.heap.size ≤ w8.heap.size := Nat.le_trans hm7.size hm8.size
        refine ⟨⟨ap, cp, rfl, ?_⟩, hpn, hpt, by rw [List.length_drop]; omega, ((((HM2.trans HM3).trans HM4).trans HM7).trans HM8).then (hz8.symm ▸ hbz)⟩
        exact HK6.out.same (fun k hk _ => hk.1) (fun k hk hlt => ((hsm9 k hk.2.1).trans (hm8.block k (Nat.lt_of_lt_of_le hlt hm7.size) (by have := hk.1; omega))).trans (hm7.block k hlt (by have := hk.1; omega)))
      · rw [if_neg hb]
        have hbz2 : ((k2 : Int) == 41) = false := by simp; omega
        have hbz3 : ¬ (k2 : Int) = 41 := by omega
        clear hk2 hb
        go_enter Tryz.func95, Tryz.ntmps95
        go_upto_region 1 with (refine wQ_alloc (cs := zP) rfl _ (by rfl) (by assumption) zero_pol ?_; intro g0 w1 hR hbg0 hg0)
        have hg0l : g0 < w1.heap.size := hR.lt (List.Mem.head _)
        go_upto_region 7 with (first
          | (go_at_call 59; refine (HPK.out _ (hR.at_ ha hrb)).mono ?_; rintro e w2 ⟨rfl, hm2⟩; obtain ⟨n2, hR, HM2, hz2⟩ := hR.move ha hrb rfl hm2) | (go_at_call 110; refine (HSK.out _ (hR.at_ HM2.at_ hrb)).mono ?_; rintro e w3 ⟨rfl, hm3⟩; obtain ⟨n3, hR, HM3, hz3⟩ := hR.move HM2.at_ hrb hz2 hm3) | (go_at_call 58; refine (H2.out _ _ (hR.at_ HM3.at_ hrb) (by omega) (by omega)).mono ?_; rw [hr]; rintro e w4 ⟨⟨ap, cp, rfl, hsl⟩, hpn, hpt, hrl, hm4⟩; obtain ⟨n4, hR, HM4, hz4⟩ := hR.move HM3.at_ hrb hz3 hm4)
          | (refine wQ_alloc (cs := zP) rfl _ (by rfl) (by assumption) zero_pol ?_; intro g1 w5 hR hbg1 hg1) | (refine wQ_store rfl _ _ _ (by rfl) (by assumption) _ rfl #[.int .i64 p.k, .int .i64 p.o, .string p.n, .string p.t, .slice ap p.kids.len cp] (by rfl) _ _ _ (by repeat (first | exact Pick.here | apply Pick.there)) (by kernel_rfl) (by kernel_rfl) (by kernel_rfl) ?_; intro w6 hR hsm hsz))
        have hz13 : w1.heap.size ≤ w3.heap.size := Nat.le_trans hm2.size hm3.size
        have hsl6 : SlQ (fun k => w.heap.size ≤ k ∧ k ≠ g0 ∧ k ≠ g1) w6 p.kids ap cp := hsl.same (fun k hk hlt => ⟨by have := hbg0.size; omega, by omega, by omega⟩) (fun k hk hlt => (hsm k (by omega)).trans (hbg1.block k hlt))
        have HK6 := Lib.hid hsl6
        clear hsl hsl6 hsm hsz hm2 hm3 hm4 hbg1
        go_upto_region 9 with (go_at_call 59; refine (HPR.out _ (hR.at_ HM4.at_ hrb)).mono ?_; rintro e w7 ⟨rfl, hm7⟩; obtain ⟨n7, hR, HM7, hz7⟩ := hR.move HM4.at_ hrb hz4 hm7)
        clear HK6
        have e0 : w7.cell? ⟨g1, 0, none⟩ = some (.int .i64 p.k) := hR.cellAt (List.Mem.head _) 0 rfl
        have d0 : w7.cell? ⟨g0, 0, none⟩ = some (.int .i64 0) := hR.cellAt (List.Mem.tail _ (List.Mem.head _)) 0 rfl
        have e1 : w7.cell? ⟨g1, 1, none⟩ = some (.int .i64 p.o) := hR.cellAt (List.Mem.head _) 1 rfl
        have d1 : w7.cell? ⟨g0, 1, none⟩ = some (.int .i64 0) := hR.cellAt (List.Mem.tail _ (List.Mem.head _)) 1 rfl
        have e2 : w7.cell? ⟨g1, 2, none⟩ = some (.string p.n) := hR.cellAt (List.Mem.head _) 2 rfl
        have d2 : w7.cell? ⟨g0, 2, none⟩ = some (.string ⟨#[]⟩) := hR.cellAt (List.Mem.tail _ (List.Mem.head _)) 2 rfl
        have e3 : w7.cell? ⟨g1, 3, none⟩ = some (.string p.t) := hR.cellAt (List.Mem.head _) 3 rfl
        have d3 : w7.cell? ⟨g0, 3, none⟩ = some (.string ⟨#[]⟩) := hR.cellAt (List.Mem.tail _ (List.Mem.head _)) 3 rfl
        have e4 : w7.cell? ⟨g1, 4, none⟩ = some (.slice ap p.kids.len cp) := hR.cellAt (List.Mem.head _) 4 rfl
        have d4 : w7.cell? ⟨g0, 4, none⟩ = some (.slice none 0 0) := hR.cellAt (List.Mem.tail _ (List.Mem.head _)) 4 rfl
        have hfz : ∀ j, w7.frozen? ⟨g0, j, none⟩ = false := fun j => hR.thaw (List.Mem.tail _ (List.Mem.head _)) j
        have hRx := (((((hR.setp (Pick.there Pick.here) 0 (.int .i64 p.k) rfl).setp Pick.here 1 (.int .i64 p.o) rfl).setp Pick.here 2 (.string p.n) rfl).setp Pick.here 3 (.string p.t) rfl).setp Pick.here 4 (.slice ap p.kids.len cp) rfl)
        have HRX := Lib.hid hRx
        clear hRx
        go_region_with (go_at_call 60; refine (wanted_any _ _ (by decide)).mono ?_; rintro e w15 ⟨⟨why, rfl⟩, rfl⟩)
        all_goals
          go_wp2_with fail
          refine bodyPost_rws2 rfl (by first | exact HRX.out | exact HRX.out.drew | exact HRX.out.drew.drew | exact HRX.out.drew.drew.drew | exact HRX.out.drew.drew.drew.drew) g0 rfl _ _ (List.Mem.head _) _ Tryz.underlying24 rfl (by kernel_rfl) _ rfl rfl (fun hbz => ?_)
          exact ⟨⟨_, _, _, _, _, _, _, why, rfl⟩, v, by omega, (((HM2.trans HM3).trans HM4).trans HM7).then (hz7.symm ▸ hbz)⟩

  · rw [if_neg hk]
    have hkz : (((peekS u).2 : Int) == 40) = false := by simp; omega
    have hkn : ¬ ((peekS u).2 : Int) = 40 := by omega
    have HWA : Hid (∀ w, At rb u w → Calls Tryz.prog 94 #[.pointer (some ⟨rb, 0, none⟩), .string (bs sAlways)] w fun e w' => e = .returned (.bool (wordS sAlways u).isSome) ∧ Mv rb ((wordS sAlways u).getD u) w w') := Lib.hid fun w ha => by
      have := word_any rb u sAlways w ha (by omega)
      unfold WordPost at this
      rw [HTT.out] at this
      exact this
    have HWN : Hid (∀ w, At rb u w → Calls Tryz.prog 94 #[.pointer (some ⟨rb, 0, none⟩), .string (bs sNot)] w fun e w' => e = .returned (.bool (wordS sNot u).isSome) ∧ Mv rb ((wordS sNot u).getD u) w w') := Lib.hid fun w ha => by
      have := word_any rb u sNot w ha (by omega)
      unfold WordPost at this
      rw [HTT.out] at this
      exact this
    clear HTT
    cases ha1 : wordS sAlways u with
    | some r =>
      simp only
      have hrl := wordS_le ha1
      rw [ha1] at HWA
      simp only [Option.isSome_some, Option.getD_some] at HWA
      clear hk ha1
      generalize (peekS u).2 = kd at *
      generalize (peekS u).1 = tok at *
      go_enter Tryz.func95, Tryz.ntmps95
      go_upto_region 1 with (refine wQ_alloc (cs := zP) rfl _ (by rfl) (by assumption) zero_pol ?_; intro g0 w1 hR hbg0 hg0)
      have hg0l : g0 < w1.heap.size := hR.lt (List.Mem.head _)
      go_wp2_with (first
        | (go_at_call 59; refine (HPK.out _ (hR.at_ ha hrb)).mono ?_; rintro e w2 ⟨rfl, hm2⟩; obtain ⟨n2, hR, HM2, hz2⟩ := hR.move ha hrb rfl hm2) | (go_at_call_of 94 (Value.string ⟨#[97, 108, 119, 97, 121, 115]⟩); refine (HWA.out _ (hR.at_ HM2.at_ hrb)).mono ?_; rintro e w3 ⟨rfl, hm3⟩; obtain ⟨n3, hR, HM3, hz3⟩ := hR.move HM2.at_ hrb hz2 hm3) | (refine wQ_store rfl _ _ _ (by rfl) (by assumption) _ rfl #[.int .i64 0, .int .i64 0, .string ⟨#[]⟩, .string ⟨#[]⟩, .slice none 0 0] (by rfl) _ _ _ (by repeat (first | exact Pick.here | apply Pick.there)) (by kernel_rfl) (by kernel_rfl) (by kernel_rfl) ?_; intro w6 hR hsm hsz))
      refine bodyPost_rws2 rfl (by assumption) g0 rfl _ _ (List.Mem.head _) _ Tryz.underlying24 rfl (by kernel_rfl) _ rfl rfl (fun hbz => ?_)
      exact ⟨⟨none, 0, rfl, SlQ.nil _ _⟩, (show e0.size ≤ SB by decide), (show e0.size ≤ SB by decide), by omega, (HM2.trans HM3).then (hz3.symm ▸ hbz)⟩
    | none =>
      simp only
      rw [ha1] at HWA
      simp only [Option.isSome_none, Option.getD_none] at HWA
      clear ha1
      cases ha2 : wordS sNot u with
      | some r =>
        simp only
        have hrl := wordS_lt ha2
        have hsn : sNot.length = 3 := rfl
        rw [ha2] at HWN
        simp only [Option.isSome_some, Option.getD_some] at HWN
        clear hk ha2
        generalize (peekS u).2 = kd at *
        generalize (peekS u).1 = tok at *
        cases hr : parseS F' 0 r with
        | none =>
          simp only
          go_enter Tryz.func95, Tryz.ntmps95
          go_upto_region 1 with (refine wQ_alloc (cs := zP) rfl _ (by rfl) (by assumption) zero_pol ?_; intro g0 w1 hR hbg0 hg0)
          have hg0l : g0 < w1.heap.size := hR.lt (List.Mem.head _)
          go_upto_region 16 with (first
            | (go_at_call 59; refine (HPK.out _ (hR.at_ ha hrb)).mono ?_; rintro e w2 ⟨rfl, hm2⟩; obtain ⟨n2, hR, HM2, hz2⟩ := hR.move ha hrb rfl hm2) | (go_at_call_of 94 (Value.string ⟨#[97, 108, 119, 97, 121, 115]⟩); refine (HWA.out _ (hR.at_ HM2.at_ hrb)).mono ?_; rintro e w3 ⟨rfl, hm3⟩; obtain ⟨n3, hR, HM3, hz3⟩ := hR.move HM2.at_ hrb hz2 hm3) | (go_at_call_of 94 (Value.string ⟨#[110, 111, 116]⟩); refine (HWN.out _ (hR.at_ HM3.at_ hrb)).mono ?_; rintro e w4 ⟨rfl, hm4⟩; obtain ⟨n4, hR, HM4, hz4⟩ := hR.move HM3.at_ hrb hz3 hm4) | (go_at_call 95; refine (H0.out _ _ (hR.at_ HM4.at_ hrb) (by omega) (by omega)).mono ?_; rw [hr]; rintro e w8 ⟨⟨k, o, n, t, ad, l, c, why, rfl⟩, uu, huu, hm5⟩; obtain ⟨n5, hR, HM5, hz5⟩ := hR.move HM4.at_ hrb hz4 hm5)
            | (refine wQ_alloc (cs := zP) rfl _ (by rfl) (by assumption) zero_pol ?_; intro g1 w5 hR hbg1 hg1) | (refine wQ_store rfl _ _ _ (by rfl) (by assumption) _ rfl #[.int .i64 k, .int .i64 o, .string n, .string t, .slice ad l c] (by rfl) _ _ _ (by repeat (first | exact Pick.here | apply Pick.there)) (by kernel_rfl) (by kernel_rfl) (by kernel_rfl) ?_; intro w6 hR hsm hsz))
          clear hsm hsz
          have hRA := hR.alloc0 (.cells #[.int .i64 k, .int .i64 o, .string n, .string t, .slice ad l c] 24)
          go_wp2_with (first
            | (refine wpList_load_rws rfl _ _ (by rfl) (by assumption) _ rfl _ _ (by repeat (first | exact List.Mem.head _ | refine List.Mem.tail _ ?_)) _ Tryz.underlying24 rfl (by kernel_rfl) ?_) | (refine wQ_store rfl _ _ _ (by rfl) (by assumption) _ rfl #[.int .i64 1, .int .i64 0, .string ⟨#[]⟩, .string ⟨#[]⟩, .slice (some ⟨w6.heap.size, 0, none⟩) 1 1] (by rfl) _ _ _ (by repeat (first | exact Pick.here | apply Pick.there)) (by kernel_rfl) (by kernel_rfl) (by kernel_rfl) ?_; intro w7 hR hsm7 hsz7))
          refine bodyPost_rws2 rfl (by assumption) g0 rfl _ _ (List.Mem.head _) _ Tryz.underlying24 rfl (by kernel_rfl) _ rfl rfl (fun hbz => ?_)
          exact ⟨⟨_, _, _, _, _, _, _, why, rfl⟩, uu, huu, (((HM2.trans HM3).trans HM4).trans HM5).then (hz5.symm ▸ hbz)⟩
        | some p =>
          obtain ⟨p, r'⟩ := p
          simp only
          go_enter Tryz.func95, Tryz.ntmps95
          go_upto_region 1 with (refine wQ_alloc (cs := zP) rfl _ (by rfl) (by assumption) zero_pol ?_; intro g0 w1 hR hbg0 hg0)
          have hg0l : g0 < w1.heap.size := hR.lt (List.Mem.head _)
          go_upto_region 16 with (first
            | (go_at_call 59; refine (HPK.out _ (hR.at_ ha hrb)).mono ?_; rintro e w2 ⟨rfl, hm2⟩; obtain ⟨n2, hR, HM2, hz2⟩ := hR.move ha hrb rfl hm2) | (go_at_call_of 94 (Value.string ⟨#[97, 108, 119, 97, 121, 115]⟩); refine (HWA.out _ (hR.at_ HM2.at_ hrb)).mono ?_; rintro e w3 ⟨rfl, hm3⟩; obtain ⟨n3, hR, HM3, hz3⟩ := hR.move HM2.at_ hrb hz2 hm3) | (go_at_call_of 94 (Value.string ⟨#[110, 111, 116]⟩); refine (HWN.out _ (hR.at_ HM3.at_ hrb)).mono ?_; rintro e w4 ⟨rfl, hm4⟩; obtain ⟨n4, hR, HM4, hz4⟩ := hR.move HM3.at_ hrb hz3 hm4) | (go_at_call 95; refine (H0.out _ _ (hR.at_ HM4.at_ hrb) (by omega) (by omega)).mono ?_; rw [hr]; rintro e w8 ⟨⟨ap, cp, rfl, hsl⟩, hpn, hpt, hrl5, hm5⟩; obtain ⟨n5, hR, HM5, hz5⟩ := hR.move HM4.at_ hrb hz4 hm5)
            | (refine wQ_alloc (cs := zP) rfl _ (by rfl) (by assumption) zero_pol ?_; intro g1 w5 hR hbg1 hg1) | (refine wQ_store rfl _ _ _ (by rfl) (by assumption) _ rfl #[.int .i64 p.k, .int .i64 p.o, .string p.n, .string p.t, .slice ap p.kids.len cp] (by rfl) _ _ _ (by repeat (first | exact Pick.here | apply Pick.there)) (by kernel_rfl) (by kernel_rfl) (by kernel_rfl) ?_; intro w6 hR hsm hsz))
          have hz14 : w1.heap.size ≤ w4.heap.size := Nat.le_trans hm2.size (Nat.le_trans hm3.size hm4.size)
          have hw1B : w.heap.size ≤ w1.heap.size := hbg0.size
          have hw6B : w.heap.size ≤ w6.heap.size := hR.len
          have hg0w6 : g0 < w6.heap.size := hR.lt (List.Mem.tail _ (List.Mem.head _))
          have hsl6 : SlQ (fun k => (w.heap.size ≤ k ∧ k ≠ g0) ∧ k < w6.heap.size) w6 p.kids ap cp := hsl.same (fun k hk hlt => ⟨⟨by omega, by omega⟩, by have := hbg1.size; omega⟩) (fun k hk hlt => (hsm k (by omega)).trans (hbg1.block k hlt))
          have HK6 := Lib.hid hsl6
          clear hsl hsl6 hsm hsz hbg1
          have hRA := hR.alloc0 (.cells #[.int .i64 p.k, .int .i64 p.o, .string p.n, .string p.t, .slice ap p.kids.len cp] 24)
          go_wp2_with (first
            | (refine wpList_load_rws rfl _ _ (by rfl) (by assumption) _ rfl _ _ (by repeat (first | exact List.Mem.head _ | refine List.Mem.tail _ ?_)) _ Tryz.underlying24 rfl (by kernel_rfl) ?_) | (refine wQ_store rfl _ _ _ (by rfl) (by assumption) _ rfl #[.int .i64 1, .int .i64 0, .string ⟨#[]⟩, .string ⟨#[]⟩, .slice (some ⟨w6.heap.size, 0, none⟩) 1 1] (by rfl) _ _ _ (by repeat (first | exact Pick.here | apply Pick.there)) (by kernel_rfl) (by kernel_rfl) (by kernel_rfl) ?_; intro w7 hR hsm7 hsz7))
          refine bodyPost_rws2 rfl (by assumption) g0 rfl _ _ (List.Mem.head _) _ Tryz.underlying24 rfl (by kernel_rfl) _ rfl rfl (fun hbz => ?_)
          have hkk : SlQ (fun k => w.heap.size ≤ k) w7 p.kids ap cp := HK6.out.same (fun k hk _ => hk.1.1) (fun k hk hlt => (hsm7 k hk.1.2).trans ((b_alloc w6 _).block k hk.2))
          refine ⟨⟨_, _, rfl, one_slq p ap cp rfl hw6B (hsm7 _ (by omega)) hpn hpt hkk⟩, (show e0.size ≤ SB by decide), (show e0.size ≤ SB by decide), hrl5, (((HM2.trans HM3).trans HM4).trans HM5).then (hz5.symm ▸ hbz)⟩
      | none =>
        simp only
        rw [ha2] at HWN
        simp only [Option.isSome_none, Option.getD_none] at HWN
        clear ha2
        by_cases hk9 : (peekS u).2 = 119
        · rw [if_pos hk9]
          rw [hk9] at HPK
          clear hk hkz hkn hk9
          generalize (peekS u).1 = tok at *
          have hts : (bs tok).size = tok.length := bs_size tok
          have HSK : Hid (∀ w1, At rb u w1 → Calls Tryz.prog 110 #[.pointer (some ⟨rb, 0, none⟩), .string (bs tok)] w1 fun e w' => e = .returned (.tuple #[]) ∧ Mv rb (u.drop tok.length) w1 w') := Lib.hid fun w1 ha => by
            have := skip_any rb u (bs tok) w1 ha (by rw [hts]; exact hfst)
            rw [hts] at this
            exact this
          have HTE : Hid (∀ w1, At rb (u.drop tok.length) w1 → Calls Tryz.prog 111 #[.pointer (some ⟨rb, 0, none⟩), .string (bs tok)] w1 (PQ rb (testS tok (u.drop tok.length)) w1)) := Lib.hid fun w1 ha => test_pq rb tok (u.drop tok.length) w1 ha (by rw [List.length_drop]; omega) (by omega)
          clear hts
          cases hr : testS tok (u.drop tok.length) with
          | none =>
            go_enter Tryz.func95, Tryz.ntmps95
            go_upto_region 1 with (refine wQ_alloc (cs := zP) rfl _ (by rfl) (by assumption) zero_pol ?_; intro g0 w1 hR hbg0 hg0)
            have hg0l : g0 < w1.heap.size := hR.lt (List.Mem.head _)
            go_wp2_with (first
              | (go_at_call 59; refine (HPK.out _ (hR.at_ ha hrb)).mono ?_; rintro e w2 ⟨rfl, hm2⟩; obtain ⟨n2, hR, HM2, hz2⟩ := hR.move ha hrb rfl hm2) | (go_at_call_of 94 (Value.string ⟨#[97, 108, 119, 97, 121, 115]⟩); refine (HWA.out _ (hR.at_ HM2.at_ hrb)).mono ?_; rintro e w3 ⟨rfl, hm3⟩; obtain ⟨n3, hR, HM3, hz3⟩ := hR.move HM2.at_ hrb hz2 hm3) | (go_at_call_of 94 (Value.string ⟨#[110, 111, 116]⟩); refine (HWN.out _ (hR.at_ HM3.at_ hrb)).mono ?_; rintro e w4 ⟨rfl, hm4⟩; obtain ⟨n4, hR, HM4, hz4⟩ := hR.move HM3.at_ hrb hz3 hm4) | (go_at_call 110; refine (HSK.out _ (hR.at_ HM4.at_ hrb)).mono ?_; rintro e w5 ⟨rfl, hm5⟩; obtain ⟨n5, hR, HM5, hz5⟩ := hR.move HM4.at_ hrb hz4 hm5) | (go_at_call 111; refine (HTE.out _ (hR.at_ HM5.at_ hrb)).mono ?_; rw [hr]; rintro e w6 ⟨⟨k, o, n, t, ad, l, c, why, rfl⟩, uu, huu, hm6⟩; obtain ⟨n6, hR, HM6, hz6⟩ := hR.move HM5.at_ hrb hz5 hm6) | (refine wQ_store rfl _ _ _ (by rfl) (by assumption) _ rfl #[.int .i64 k, .int .i64 o, .string n, .string t, .slice ad l c] (by rfl) _ _ _ (by repeat (first | exact Pick.here | apply Pick.there)) (by kernel_rfl) (by kernel_rfl) (by kernel_rfl) ?_; intro w7 hR hsm hsz))
            refine bodyPost_rws2 rfl (by assumption) g0 rfl _ _ (List.Mem.head _) _ Tryz.underlying24 rfl (by kernel_rfl) _ rfl rfl (fun hbz => ?_)
            exact ⟨⟨_, _, _, _, _, _, _, why, rfl⟩, uu, huu, ((((HM2.trans HM3).trans HM4).trans HM5).trans HM6).then (hz6.symm ▸ hbz)⟩
          | some p =>
            obtain ⟨p, r⟩ := p
            go_enter Tryz.func95, Tryz.ntmps95
            go_upto_region 1 with (refine wQ_alloc (cs := zP) rfl _ (by rfl) (by assumption) zero_pol ?_; intro g0 w1 hR hbg0 hg0)
            have hg0l : g0 < w1.heap.size := hR.lt (List.Mem.head _)
            go_wp2_with (first
              | (go_at_call 59; refine (HPK.out _ (hR.at_ ha hrb)).mono ?_; rintro e w2 ⟨rfl, hm2⟩; obtain ⟨n2, hR, HM2, hz2⟩ := hR.move ha hrb rfl hm2) | (go_at_call_of 94 (Value.string ⟨#[97, 108, 119, 97, 121, 115]⟩); refine (HWA.out _ (hR.at_ HM2.at_ hrb)).mono ?_; rintro e w3 ⟨rfl, hm3⟩; obtain ⟨n3, hR, HM3, hz3⟩ := hR.move HM2.at_ hrb hz2 hm3) | (go_at_call_of 94 (Value.string ⟨#[110, 111, 116]⟩); refine (HWN.out _ (hR.at_ HM3.at_ hrb)).mono ?_; rintro e w4 ⟨rfl, hm4⟩; obtain ⟨n4, hR, HM4, hz4⟩ := hR.move HM3.at_ hrb hz3 hm4) | (go_at_call 110; refine (HSK.out _ (hR.at_ HM4.at_ hrb)).mono ?_; rintro e w5 ⟨rfl, hm5⟩; obtain ⟨n5, hR, HM5, hz5⟩ := hR.move HM4.at_ hrb hz4 hm5) | (go_at_call 111; refine (HTE.out _ (hR.at_ HM5.at_ hrb)).mono ?_; rw [hr]; rintro e w6 ⟨⟨ap, cp, rfl, hsl⟩, hpn, hpt, hrl, hm6⟩; obtain ⟨n6, hR, HM6, hz6⟩ := hR.move HM5.at_ hrb hz5 hm6) | (refine wQ_store rfl _ _ _ (by rfl) (by assumption) _ rfl #[.int .i64 p.k, .int .i64 p.o, .string p.n, .string p.t, .slice ap p.kids.len cp] (by rfl) _ _ _ (by repeat (first | exact Pick.here | apply Pick.there)) (by kernel_rfl) (by kernel_rfl) (by kernel_rfl) ?_; intro w7 hR hsm hsz))
            refine bodyPost_rws2 rfl (by assumption) g0 rfl _ _ (List.Mem.head _) _ Tryz.underlying24 rfl (by kernel_rfl) _ rfl rfl (fun hbz => ?_)
            have hz15 : w1.heap.size ≤ w5.heap.size := Nat.le_trans hm2.size (Nat.le_trans hm3.size (Nat.le_trans hm4.size hm5.size))
            refine ⟨⟨ap, cp, rfl, hsl.same (fun k hk _ => by have := hbg0.size; omega) (fun k hk hlt => hsm k (by omega))⟩, hpn, hpt, hrl, ((((HM2.trans HM3).trans HM4).trans HM5).trans HM6).then (hz6.symm ▸ hbz)⟩
        · rw [if_neg hk9]
          have h9z : (((peekS u).2 : Int) == 119) = false := by simp; omega
          clear hk hk9
          generalize (peekS u).2 = kd at *
          generalize (peekS u).1 = tok at *
          go_enter Tryz.func95, Tryz.ntmps95
          go_upto_region 1 with (refine wQ_alloc (cs := zP) rfl _ (by rfl) (by assumption) zero_pol ?_; intro g0 w1 hR hbg0 hg0)
          have hg0l : g0 < w1.heap.size := hR.lt (List.Mem.head _)
          go_wp2_with (first
            | (go_at_call 59; refine (HPK.out _ (hR.at_ ha hrb)).mono ?_; rintro e w2 ⟨rfl, hm2⟩; obtain ⟨n2, hR, HM2, hz2⟩ := hR.move ha hrb rfl hm2) | (go_at_call_of 94 (Value.string ⟨#[97, 108, 119, 97, 121, 115]⟩); refine (HWA.out _ (hR.at_ HM2.at_ hrb)).mono ?_; rintro e w3 ⟨rfl, hm3⟩; obtain ⟨n3, hR, HM3, hz3⟩ := hR.move HM2.at_ hrb hz2 hm3) | (go_at_call_of 94 (Value.string ⟨#[110, 111, 116]⟩); refine (HWN.out _ (hR.at_ HM3.at_ hrb)).mono ?_; rintro e w4 ⟨rfl, hm4⟩; obtain ⟨n4, hR, HM4, hz4⟩ := hR.move HM3.at_ hrb hz3 hm4) | (go_at_call 60; refine (wanted_any _ _ (by decide)).mono ?_; rintro e w5 ⟨⟨why, rfl⟩, rfl⟩) | (refine wQ_store rfl _ _ _ (by rfl) (by assumption) _ rfl #[.int .i64 0, .int .i64 0, .string ⟨#[]⟩, .string ⟨#[]⟩, .slice none 0 0] (by rfl) _ _ _ (by repeat (first | exact Pick.here | apply Pick.there)) (by kernel_rfl) (by kernel_rfl) (by kernel_rfl) ?_; intro w7 hR hsm hsz))
          refine bodyPost_rws2 rfl (by assumption) g0 rfl _ _ (List.Mem.head _) _ Tryz.underlying24 rfl (by kernel_rfl) _ rfl rfl (fun hbz => ?_)
          exact ⟨⟨_, _, _, _, _, _, _, why, rfl⟩, u, by omega, ((HM2.trans HM3).trans HM4).then (hz4.symm ▸ hbz)⟩
end Go.Proofs.YthpagppipifgeaaGreatDoor
