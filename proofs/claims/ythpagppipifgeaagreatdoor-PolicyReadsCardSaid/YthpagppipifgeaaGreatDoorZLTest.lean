/- reader.test: the walk. -/
import Derived.Test.YthpagppipifgeaaGreatDoorZLRws2
import Derived.Test.YthpagppipifgeaaGreatDoorZLLit
import Derived.Deep.CutBlock
namespace Go.Proofs.YthpagppipifgeaaGreatDoor
open Go.RowKit

theorem trL_trL (l : List UInt8) : trL (trL l) = trL l := by
  unfold trL Lib.trimLeftB
  induction l with
  | nil => rfl
  | cons x r ih =>
    by_cases h : (x == 32) = true
    · simp only [List.dropWhile_cons, h, if_true]; exact ih
    · simp only [List.dropWhile_cons, h, Bool.false_eq_true, if_false]
theorem wordS_le {wd u r : List UInt8} (h : wordS wd u = some r) : r.length ≤ u.length := by
  unfold wordS at h
  split at h
  · cases h; simp
  · cases h
/-- A policy that was read. -/
structure Po where
  k : Int
  o : Int
  n : ByteArray
  t : ByteArray
  kids : Fo
def sMethod : List UInt8 := [109, 101, 116, 104, 111, 100]
def sPath : List UInt8 := [112, 97, 116, 104]
def sClaim : List UInt8 := [99, 108, 97, 105, 109]
def sCert : List UInt8 := [99, 101, 114, 116]
def sIs : List UInt8 := [105, 115]
def sBegins : List UInt8 := [98, 101, 103, 105, 110, 115]
def sHas : List UInt8 := [104, 97, 115]
theorem dotS_le (l : List UInt8) : (dotS l).1.length ≤ l.length ∧ (dotS l).2.1.length ≤ l.length := by
  unfold dotS
  split
  · simp only [List.length_take, List.length_drop]; omega
  · simp
/-- What a test looks at. -/
def lookS (sub : List UInt8) : Option (Int × List UInt8) :=
  if sub = sMethod then some (0, []) else if sub = sPath then some (1, [])
  else if (dotS sub).2.2 = true ∧ (dotS sub).1 = sClaim ∧ nameB (bs (dotS sub).2.1) = true then some (2, (dotS sub).2.1)
  else if (dotS sub).2.2 = true ∧ (dotS sub).1 = sCert ∧ nameB (bs (dotS sub).2.1) = true then some (3, (dotS sub).2.1)
  else none
def opS (s : List UInt8) : Option (Int × List UInt8) :=
  match wordS sIs (trL s) with
  | some r => some (4, r)
  | none => match wordS sBegins (trL s) with
    | some r => some (5, r)
    | none => match wordS sHas (trL s) with
      | some r => some (6, r)
      | none => none
def testS (sub s : List UInt8) : Option (Po × List UInt8) :=
  match lookS sub with
  | none => none
  | some (o, n) => match opS s with
    | none => none
    | some (k, r) => match literalS r with
      | none => none
      | some (t, r') => some (⟨k, o, bs n, bs t, .nil⟩, r')
/-- What a reading call answers. -/
def POut (rb : Nat) (o : Option (Po × List UInt8)) (w : World) : Ending → World → Prop := fun e w' =>
  match o with
  | some (p, r) => (∃ ad c, e = .returned (.tuple #[pv p.k p.o p.n p.t ad p.kids.len c, .nilIface]) ∧ SlF w' p.kids ad c) ∧ p.n.size ≤ SB ∧ p.t.size ≤ SB ∧ r.length ≤ 1024 ∧ Mv rb r w w'
  | none => (∃ k o n t ad l c why, e = .returned (.tuple #[pv k o n t ad l c, wrapV why])) ∧ ∃ u : List UInt8, u.length ≤ 1024 ∧ Mv rb u w w'
def zP : Array Value := #[.int .i64 0, .int .i64 0, .string ⟨#[]⟩, .string ⟨#[]⟩, .slice none 0 0]
theorem zero_pol (w : World) : (zeroValue 24).run Tryz.prog w = .ok (.agg zP) w := by kernel_rfl

set_option maxRecDepth 100000 in
set_option maxHeartbeats 4000000 in
theorem test_any (rb : Nat) (sub s : List UInt8) (w : World) (ha : At rb s w) (hs : s.length ≤ 1024) (hl : sub.length ≤ 1024) :
    Calls Tryz.prog 111 #[.pointer (some ⟨rb, 0, none⟩), .string (bs sub)] w (POut rb (testS sub s) w) := by
  have hR := Rws.start w
  have HC : Hid (∀ w, Calls Tryz.prog 122 #[.string (bs sub), .string ⟨#[46]⟩] w fun e w' => e = .returned (.tuple #[.string (bs (dotS sub).1), .string (bs (dotS sub).2.1), .bool (dotS sub).2.2]) ∧ Below w.heap.size w w') := Lib.hid fun w => cut_any sub w hl
  have hul := bs_list sub
  have hnm : ∀ w, Calls Tryz.prog 47 #[.string (bs (dotS sub).2.1)] w (RetB (nameB (bs (dotS sub).2.1)) w) := fun w => name_any _ w (by rw [bs_size, SB_eq]; have := dotS_le sub; omega)
  have hdl := dotS_le sub
  have HNM := Lib.hid hnm
  clear hnm
  obtain ⟨D, hD⟩ : ∃ D, D = dotS sub := ⟨_, rfl⟩
  rw [← hD] at HC HNM hdl
  obtain ⟨hd, tl, fd⟩ := D
  have HD := Lib.hid hD
  clear hD
  simp only at HC HNM hdl
  have hdL := bs_list hd
  have hB : w.heap.size = w.heap.size := rfl
  have hrb := ha.lt
  go_enter Tryz.func111, Tryz.ntmps111
  go_upto_region 1 with (refine wpList_alloc_rws (cs := zP) rfl _ (by rfl) (by assumption) zero_pol ?_; intro g0 w1 hR)
  go_upto_block 0 with (first
    | (refine wpList_alloc_rws (cs := zP) rfl _ (by rfl) (by assumption) zero_pol ?_; intro g1 w1 hR)
    | (refine wpList_store_rws rfl _ _ _ (by rfl) (by assumption) _ rfl zP (by kernel_rfl) _ _ _ (by repeat (first | exact Pick.here | apply Pick.there)) (by kernel_rfl) (by kernel_rfl) (by kernel_rfl) ?_; intro w1 hR)
    | (go_at_call 122; refine (HC.out _).mono ?_; rintro e w1 ⟨rfl, hb⟩; have hR := Rws.call (by assumption) hb))
  go_cut [] (fun wx => ∃ (o : Int) (n : List UInt8), lookS sub = some (o, n) ∧ n.length ≤ 1024 ∧ Rws w.heap.size w wx [(g1, #[.int .i64 0, .int .i64 o, .string (bs n), .string ⟨#[]⟩, .slice none 0 0], 24), (g0, zP, 24)])
  case first =>
    by_cases hm : sub = sMethod
    · have hls : lookS sub = some (0, []) := by rw [hm]; rfl
      have HLS := Lib.hid hls
      have hq : (sub == [109, 101, 116, 104, 111, 100]) = true := by rw [hm]; rfl
      clear hls hm
      go_wp2_with (refine wR_storec rfl (by rfl) (by assumption) rfl rfl (by repeat (first | exact Pick.here | apply Pick.there)) rfl (by kernel_rfl) (by first | decide | simp [zP]) rfl rfl ?_; intro w2 hR)
      go_meet
      exact ⟨0, [], HLS.out, by simp, hR⟩
    have hm0 : (sub == [109, 101, 116, 104, 111, 100]) = false := by rw [beqL]; exact decide_eq_false hm
    by_cases hp : sub = sPath
    · have hls : lookS sub = some (1, []) := by rw [hp]; rfl
      have HLS := Lib.hid hls
      have hq : (sub == [112, 97, 116, 104]) = true := by rw [hp]; rfl
      clear hls hm hp
      go_wp2_with (first | (refine wR_storec rfl (by rfl) (by assumption) rfl rfl (by repeat (first | exact Pick.here | apply Pick.there)) rfl (by kernel_rfl) (by first | decide | simp [zP]) rfl rfl ?_; intro w2 hR) | (go_at_call 47; refine (HNM.out _).mono ?_; rintro e w3 ⟨rfl, hb3⟩; have hR := Rws.call (by assumption) hb3))
      go_meet
      exact ⟨1, [], HLS.out, by simp, hR⟩
    have hp0 : (sub == [112, 97, 116, 104]) = false := by rw [beqL]; exact decide_eq_false hp
    by_cases hc : hd = sClaim ∧ fd = true ∧ nameB (bs tl) = true
    · obtain ⟨h1, rfl, h3⟩ := hc
      have hls : lookS sub = some (2, tl) := by unfold lookS; rw [if_neg hm, if_neg hp, ← HD.out]; simp [h1, h3]
      have HLS := Lib.hid hls
      have hq : (hd == [99, 108, 97, 105, 109]) = true := by rw [h1]; rfl
      have htl : tl.length ≤ 1024 := by omega
      rw [h3] at HNM
      clear hls hm hp h1 h3
      go_wp2_with (first | (refine wR_storec rfl (by rfl) (by assumption) rfl rfl (by repeat (first | exact Pick.here | apply Pick.there)) rfl (by kernel_rfl) (by first | decide | simp [zP]) rfl rfl ?_; intro w2 hR) | (go_at_call 47; refine (HNM.out _).mono ?_; rintro e w3 ⟨rfl, hb3⟩; have hR := Rws.call (by assumption) hb3))
      go_meet
      exact ⟨2, tl, HLS.out, htl, hR⟩
    by_cases ht : hd = sCert ∧ fd = true ∧ nameB (bs tl) = true
    · obtain ⟨h1, rfl, h3⟩ := ht
      have hls : lookS sub = some (3, tl) := by unfold lookS; rw [if_neg hm, if_neg hp, ← HD.out, if_neg (by rintro ⟨_, h, _⟩; simp only at h; rw [h1] at h; exact absurd h (by decide))]; simp [h1, h3]
      have HLS := Lib.hid hls
      have hq : (hd == [99, 108, 97, 105, 109]) = false := by rw [h1]; rfl
      have hq2 : (hd == [99, 101, 114, 116]) = true := by rw [h1]; rfl
      have htl : tl.length ≤ 1024 := by omega
      rw [h3] at HNM
      clear hls hm hp h1 h3
      go_wp2_with (first | (refine wR_storec rfl (by rfl) (by assumption) rfl rfl (by repeat (first | exact Pick.here | apply Pick.there)) rfl (by kernel_rfl) (by first | decide | simp [zP]) rfl rfl ?_; intro w2 hR) | (go_at_call 47; refine (HNM.out _).mono ?_; rintro e w3 ⟨rfl, hb3⟩; have hR := Rws.call (by assumption) hb3))
      go_meet
      exact ⟨3, tl, HLS.out, htl, hR⟩
    have hls : lookS sub = none := by
      unfold lookS
      rw [if_neg hm, if_neg hp, ← HD.out, if_neg, if_neg]
      · rintro ⟨h1, h2, h3⟩; exact ht ⟨h2, h1, h3⟩
      · rintro ⟨h1, h2, h3⟩; exact hc ⟨h2, h1, h3⟩
    have HLS := Lib.hid hls
    clear hls
    go_upto_region 8 with fail
    go_cut [29] (fun s29 wx => s29 = .bool false ∧ Rws w.heap.size w wx [(g1, zP, 24), (g0, zP, 24)])
    case first =>
      by_cases h1 : hd = sClaim
      · have hq : (hd == [99, 108, 97, 105, 109]) = true := by rw [h1]; rfl
        cases fd with
        | false =>
          clear h1
          go_wp2_with fail
          go_meet
          exact ⟨rfl, hR⟩
        | true =>
          have h3 : nameB (bs tl) = false := by
            cases h : nameB (bs tl)
            · rfl
            · exact absurd ⟨h1, rfl, h⟩ hc
          rw [h3] at HNM
          clear h1 h3
          go_wp2_with (go_at_call 47; refine (HNM.out _).mono ?_; rintro e w3 ⟨rfl, hb3⟩; have hR := Rws.call (by assumption) hb3)
          go_meet
          exact ⟨rfl, hR⟩
      · have hq : (hd == [99, 108, 97, 105, 109]) = false := by rw [beqL]; exact decide_eq_false h1
        cases fd
        all_goals
          go_wp2_with fail
          go_meet
          exact ⟨rfl, hR⟩
    case rest =>
    obtain ⟨rfl, hR⟩ := hcut
    go_upto_region 10 with fail
    go_cut [42] (fun s42 wx => s42 = .bool false ∧ Rws w.heap.size w wx [(g1, zP, 24), (g0, zP, 24)])
    case first =>
      by_cases h1 : hd = sCert
      · have hq : (hd == [99, 101, 114, 116]) = true := by rw [h1]; rfl
        cases fd with
        | false =>
          clear h1
          go_wp2_with fail
          go_meet
          exact ⟨rfl, hR⟩
        | true =>
          have h3 : nameB (bs tl) = false := by
            cases h : nameB (bs tl)
            · rfl
            · exact absurd ⟨h1, rfl, h⟩ ht
          rw [h3] at HNM
          clear h1 h3
          go_wp2_with (go_at_call 47; refine (HNM.out _).mono ?_; rintro e w3 ⟨rfl, hb3⟩; have hR := Rws.call (by assumption) hb3)
          go_meet
          exact ⟨rfl, hR⟩
      · have hq : (hd == [99, 101, 114, 116]) = false := by rw [beqL]; exact decide_eq_false h1
        cases fd
        all_goals
          go_wp2_with fail
          go_meet
          exact ⟨rfl, hR⟩
    case rest =>
    obtain ⟨rfl, hR⟩ := hcut
    clear hc ht
    go_upto_region 3 with fail
    have e0 : wc.cell? ⟨g1, 0, none⟩ = some (.int .i64 0) := hR.cellAt (List.Mem.head _) 0 rfl
    have d0 : wc.cell? ⟨g0, 0, none⟩ = some (.int .i64 0) := hR.cellAt (List.Mem.tail _ (List.Mem.head _)) 0 rfl
    have e1 : wc.cell? ⟨g1, 1, none⟩ = some (.int .i64 0) := hR.cellAt (List.Mem.head _) 1 rfl
    have d1 : wc.cell? ⟨g0, 1, none⟩ = some (.int .i64 0) := hR.cellAt (List.Mem.tail _ (List.Mem.head _)) 1 rfl
    have e2 : wc.cell? ⟨g1, 2, none⟩ = some (.string ⟨#[]⟩) := hR.cellAt (List.Mem.head _) 2 rfl
    have d2 : wc.cell? ⟨g0, 2, none⟩ = some (.string ⟨#[]⟩) := hR.cellAt (List.Mem.tail _ (List.Mem.head _)) 2 rfl
    have e3 : wc.cell? ⟨g1, 3, none⟩ = some (.string ⟨#[]⟩) := hR.cellAt (List.Mem.head _) 3 rfl
    have d3 : wc.cell? ⟨g0, 3, none⟩ = some (.string ⟨#[]⟩) := hR.cellAt (List.Mem.tail _ (List.Mem.head _)) 3 rfl
    have e4 : wc.cell? ⟨g1, 4, none⟩ = some (.slice none 0 0) := hR.cellAt (List.Mem.head _) 4 rfl
    have d4 : wc.cell? ⟨g0, 4, none⟩ = some (.slice none 0 0) := hR.cellAt (List.Mem.tail _ (List.Mem.head _)) 4 rfl
    have hfz : ∀ j, wc.frozen? ⟨g0, j, none⟩ = false := fun j => hR.thaw (List.Mem.tail _ (List.Mem.head _)) j
    have hRx := (((((hR.setp (Pick.there Pick.here) 0 (.int .i64 0) rfl).setp Pick.here 1 (.int .i64 0) rfl).setp Pick.here 2 (.string ⟨#[]⟩) rfl).setp Pick.here 3 (.string ⟨#[]⟩) rfl).setp Pick.here 4 (.slice none 0 0) rfl)
    have HRX := Lib.hid hRx
    clear hRx
    go_region_with (go_at_call 60; refine (wanted_any _ _ (by decide)).mono ?_; rintro e w5 ⟨⟨why, rfl⟩, rfl⟩)
    all_goals
      go_wp2_with fail
      refine bodyPost_rws2 rfl (by first | exact HRX.out | exact HRX.out.drew | exact HRX.out.drew.drew | exact HRX.out.drew.drew.drew | exact HRX.out.drew.drew.drew.drew) g0 rfl _ _ (List.Mem.head _) _ Tryz.underlying24 rfl (by kernel_rfl) _ rfl rfl (fun hbz => ?_)
      rw [show testS sub s = none by unfold testS; rw [HLS.out]]
      exact ⟨⟨_, _, _, _, _, _, _, why, rfl⟩, s, hs, (Mv.refl ha).then hbz⟩
  case rest =>
    obtain ⟨o, n, hlo, hnl, hR⟩ := hcut
    have HLO := Lib.hid hlo
    clear hlo HNM HC HD hul hdL hdl hB
    have hts := trL_le s
    have htt : trL (trL s) = trL s := trL_trL s
    have HTT := Lib.hid htt
    clear htt
    go_upto_block 1 with fail
    go_cut [] (fun wx => ∃ (k : Int) (r : List UInt8) (wn : World), opS s = some (k, r) ∧ r.length ≤ 1024 ∧ Rws w.heap.size wn wx [(g1, #[.int .i64 k, .int .i64 o, .string (bs n), .string ⟨#[]⟩, .slice none 0 0], 24), (g0, zP, 24)] ∧ Mv rb r w wn ∧ wn.heap.size = w.heap.size)
    case first =>
      go_wp2_with fail
      refine (word_any rb s sIs _ (hR.at_ ha hrb) (by omega)).mono ?_
      unfold WordPost
      rintro e w2 ⟨rfl, hm⟩
      obtain ⟨n2, hR, HM2, hz2⟩ := hR.move ha hrb rfl hm
      clear hm
      cases h1 : wordS sIs (trL s) with
      | some r =>
        rw [h1] at HM2
        simp only [Option.isSome_some, Option.getD_some] at HM2 ⊢
        have hop : opS s = some (4, r) := by unfold opS; rw [h1]
        have HOP := Lib.hid hop
        have hrl : r.length ≤ 1024 := by have := wordS_le h1; omega
        clear hop h1
        go_wp2_with (refine wR_storec rfl (by rfl) (by assumption) rfl rfl (by repeat (first | exact Pick.here | apply Pick.there)) rfl (by kernel_rfl) (by first | decide | simp) rfl rfl ?_; intro w2 hR)
        go_meet
        exact ⟨4, r, n2, HOP.out, hrl, hR, HM2, hz2⟩
      | none =>
        rw [h1] at HM2
        simp only [Option.isSome_none, Option.getD_none] at HM2 ⊢
        have H1 := Lib.hid h1
        clear h1
        go_wp2_with fail
        refine (word_any rb (trL s) sBegins _ (hR.at_ HM2.at_ hrb) (by omega)).mono ?_
        unfold WordPost
        rintro e w3 ⟨rfl, hm⟩
        obtain ⟨n3, hR, HM3, hz3⟩ := hR.move HM2.at_ hrb hz2 hm
        clear hm
        rw [HTT.out] at HM3
        rw [HTT.out]
        have HM3 := HM2.trans HM3
        cases h2 : wordS sBegins (trL s) with
        | some r =>
          rw [h2] at HM3
          simp only [Option.isSome_some, Option.getD_some] at HM3 ⊢
          have hop : opS s = some (5, r) := by unfold opS; rw [H1.out, h2]
          have HOP := Lib.hid hop
          have hrl : r.length ≤ 1024 := by have := wordS_le h2; omega
          clear hop h2
          go_wp2_with (refine wR_storec rfl (by rfl) (by assumption) rfl rfl (by repeat (first | exact Pick.here | apply Pick.there)) rfl (by kernel_rfl) (by first | decide | simp) rfl rfl ?_; intro w2 hR)
          go_meet
          exact ⟨5, r, n3, HOP.out, hrl, hR, HM3, hz3⟩
        | none =>
          rw [h2] at HM3
          simp only [Option.isSome_none, Option.getD_none] at HM3 ⊢
          have H2 := Lib.hid h2
          clear h2
          go_wp2_with fail
          refine (word_any rb (trL s) sHas _ (hR.at_ HM3.at_ hrb) (by omega)).mono ?_
          unfold WordPost
          rintro e w4 ⟨rfl, hm⟩
          obtain ⟨n4, hR, HM4, hz4⟩ := hR.move HM3.at_ hrb hz3 hm
          clear hm
          rw [HTT.out] at HM4
          rw [HTT.out]
          have HM4 := HM3.trans HM4
          cases h3 : wordS sHas (trL s) with
          | some r =>
            rw [h3] at HM4
            simp only [Option.isSome_some, Option.getD_some] at HM4 ⊢
            have hop : opS s = some (6, r) := by unfold opS; rw [H1.out, H2.out, h3]
            have HOP := Lib.hid hop
            have hrl : r.length ≤ 1024 := by have := wordS_le h3; omega
            clear hop h3
            go_wp2_with (refine wR_storec rfl (by rfl) (by assumption) rfl rfl (by repeat (first | exact Pick.here | apply Pick.there)) rfl (by kernel_rfl) (by first | decide | simp) rfl rfl ?_; intro w2 hR)
            go_meet
            exact ⟨6, r, n4, HOP.out, hrl, hR, HM4, hz4⟩
          | none =>
            rw [h3] at HM4
            simp only [Option.isSome_none, Option.getD_none] at HM4 ⊢
            have hop : opS s = none := by unfold opS; rw [H1.out, H2.out, h3]
            have HOP := Lib.hid hop
            clear hop h3
            go_upto_region 12 with fail
            have e0 : w4.cell? ⟨g1, 0, none⟩ = some (.int .i64 0) := hR.cellAt (List.Mem.head _) 0 rfl
            have d0 : w4.cell? ⟨g0, 0, none⟩ = some (.int .i64 0) := hR.cellAt (List.Mem.tail _ (List.Mem.head _)) 0 rfl
            have e1 : w4.cell? ⟨g1, 1, none⟩ = some (.int .i64 o) := hR.cellAt (List.Mem.head _) 1 rfl
            have d1 : w4.cell? ⟨g0, 1, none⟩ = some (.int .i64 0) := hR.cellAt (List.Mem.tail _ (List.Mem.head _)) 1 rfl
            have e2 : w4.cell? ⟨g1, 2, none⟩ = some (.string (bs n)) := hR.cellAt (List.Mem.head _) 2 rfl
            have d2 : w4.cell? ⟨g0, 2, none⟩ = some (.string ⟨#[]⟩) := hR.cellAt (List.Mem.tail _ (List.Mem.head _)) 2 rfl
            have e3 : w4.cell? ⟨g1, 3, none⟩ = some (.string ⟨#[]⟩) := hR.cellAt (List.Mem.head _) 3 rfl
            have d3 : w4.cell? ⟨g0, 3, none⟩ = some (.string ⟨#[]⟩) := hR.cellAt (List.Mem.tail _ (List.Mem.head _)) 3 rfl
            have e4 : w4.cell? ⟨g1, 4, none⟩ = some (.slice none 0 0) := hR.cellAt (List.Mem.head _) 4 rfl
            have d4 : w4.cell? ⟨g0, 4, none⟩ = some (.slice none 0 0) := hR.cellAt (List.Mem.tail _ (List.Mem.head _)) 4 rfl
            have hfz : ∀ j, w4.frozen? ⟨g0, j, none⟩ = false := fun j => hR.thaw (List.Mem.tail _ (List.Mem.head _)) j
            have hRx := (((((hR.setp (Pick.there Pick.here) 0 (.int .i64 0) rfl).setp Pick.here 1 (.int .i64 o) rfl).setp Pick.here 2 (.string (bs n)) rfl).setp Pick.here 3 (.string ⟨#[]⟩) rfl).setp Pick.here 4 (.slice none 0 0) rfl)
            have HRX := Lib.hid hRx
            clear hRx
            go_region_with (go_at_call 60; refine (wanted_any _ _ (by decide)).mono ?_; rintro e w5 ⟨⟨why, rfl⟩, rfl⟩)
            all_goals
              go_wp2_with fail
              refine bodyPost_rws2 rfl (by first | exact HRX.out | exact HRX.out.drew | exact HRX.out.drew.drew | exact HRX.out.drew.drew.drew | exact HRX.out.drew.drew.drew.drew) g0 rfl _ _ (List.Mem.head _) _ Tryz.underlying24 rfl (by kernel_rfl) _ rfl rfl (fun hbz => ?_)
              rw [show testS sub s = none by unfold testS; rw [HLO.out]; simp only; rw [HOP.out]]
              exact ⟨⟨_, _, _, _, _, _, _, why, rfl⟩, trL s, by omega, HM4.then (hz4.symm ▸ hbz)⟩
    case rest =>
      obtain ⟨k, r, wn, hop, hrl, hR, HM, hz⟩ := hcut
      have hts2 : testS sub s = match literalS r with
          | none => none
          | some (t, r') => some (⟨k, o, bs n, bs t, .nil⟩, r') := by
        unfold testS; rw [HLO.out]; simp only; rw [hop]
      have HTS := Lib.hid hts2
      clear hts2 hop
      go_wp2_with fail
      refine (rlit_any rb r _ (hR.at_ HM.at_ hrb) hrl).mono ?_
      cases hl : literalS r with
      | some p =>
        obtain ⟨b, r'⟩ := p
        have HTS2 : Hid (testS sub s = some (⟨k, o, bs n, bs b, .nil⟩, r')) := by rw [hl] at HTS; exact HTS
        rintro e w6 ⟨rfl, hr'l, hbl, hm6⟩
        obtain ⟨n6, hR, HM6, hz6⟩ := hR.move HM.at_ hrb hz hm6
        have HM6 := HM.trans HM6
        clear HTS hm6 hl
        go_wp2_with (first
          | (refine wR_storec rfl (by rfl) (by assumption) rfl rfl (by repeat (first | exact Pick.here | apply Pick.there)) rfl (by kernel_rfl) (by first | decide | simp) rfl rfl ?_; intro w2 hR)
          | (refine wpList_load_rws rfl _ _ (by rfl) (by assumption) _ rfl _ _ (by repeat (first | exact List.Mem.head _ | refine List.Mem.tail _ ?_)) _ Tryz.underlying24 rfl (by kernel_rfl) ?_)
          | (refine wpList_store_rws rfl _ _ _ (by rfl) (by assumption) _ rfl #[.int .i64 k, .int .i64 o, .string (bs n), .string (bs b), .slice none 0 0] (by rfl) _ _ _ (by repeat (first | exact Pick.here | apply Pick.there)) (by kernel_rfl) (by kernel_rfl) (by kernel_rfl) ?_; intro w7 hR))
        refine bodyPost_rws2 rfl (by assumption) g0 rfl _ _ (List.Mem.head _) _ Tryz.underlying24 rfl (by kernel_rfl) _ rfl rfl (fun hbz => ?_)
        rw [HTS2.out]
        refine ⟨⟨none, 0, rfl, Nat.le_refl _, by decide, 0, 0, Or.inr ⟨rfl, rfl⟩, trivial⟩, ?_, ?_, hr'l, HM6.then (hz6.symm ▸ hbz)⟩
        · show (bs n).size ≤ SB; rw [bs_size, SB_eq]; omega
        · show (bs b).size ≤ SB; rw [bs_size, SB_eq]; omega
      | none =>
        have HTS2 : Hid (testS sub s = none) := by rw [hl] at HTS; exact HTS
        rintro e w6 ⟨⟨why, rfl⟩, u, hul, hm6⟩
        obtain ⟨n6, hR, HM6, hz6⟩ := hR.move HM.at_ hrb hz hm6
        have HM6 := HM.trans HM6
        clear HTS hm6 hl
        go_wp2_with (first
          | (refine wR_storec rfl (by rfl) (by assumption) rfl rfl (by repeat (first | exact Pick.here | apply Pick.there)) rfl (by kernel_rfl) (by first | decide | simp) rfl rfl ?_; intro w2 hR)
          | (refine wpList_load_rws rfl _ _ (by rfl) (by assumption) _ rfl _ _ (by repeat (first | exact List.Mem.head _ | refine List.Mem.tail _ ?_)) _ Tryz.underlying24 rfl (by kernel_rfl) ?_)
          | (refine wpList_store_rws rfl _ _ _ (by rfl) (by assumption) _ rfl #[.int .i64 k, .int .i64 o, .string (bs n), .string e0, .slice none 0 0] (by rfl) _ _ _ (by repeat (first | exact Pick.here | apply Pick.there)) (by kernel_rfl) (by kernel_rfl) (by kernel_rfl) ?_; intro w7 hR))
        refine bodyPost_rws2 rfl (by assumption) g0 rfl _ _ (List.Mem.head _) _ Tryz.underlying24 rfl (by kernel_rfl) _ rfl rfl (fun hbz => ?_)
        rw [HTS2.out]
        exact ⟨⟨_, _, _, _, _, _, _, why, rfl⟩, u, hul, HM6.then (hz6.symm ▸ hbz)⟩
end Go.Proofs.YthpagppipifgeaaGreatDoor
