/- ostiarylaw15.fixed: the walk. -/
import Derived.Test.YtipjkjcmceeaeaaGreatDoorYParse
import Derived.Test.YtipjkjcmceeaeaaGreatDoorYAns
import Derived.Test.YtipjkjcmceeaeaaGreatDoorYLabel
namespace Go.Proofs.YtipjkjcmceeaeaaGreatDoor
open Go.RowKit

def fx1 : Bs := [71, 69, 84, 32, 47, 32, 72, 84, 84, 80, 47, 49, 46, 49, 13, 10, 72, 111, 115, 116, 58, 32, 32, 97, 46, 98, 13, 10, 13, 10, 120]
theorem fx1_eq : parseV fx1 = (⟨[71, 69, 84], [47], [([104, 111, 115, 116], [97, 46, 98])], []⟩, 30, 0) := by kernel_rfl
def fx2 : Bs := [71, 69, 84, 32, 47, 32, 72, 84, 84, 80, 47, 49, 46, 49, 13, 10, 72, 111, 115, 116, 32, 58, 32, 97, 13, 10, 13, 10]
theorem fx2_eq : parseV fx2 = (zRq, 0, 151) := by kernel_rfl
def fx3 : Bs := [71, 69, 84, 32, 47, 32, 72, 84, 84, 80, 47, 49, 46, 49, 13, 10, 72, 111, 115, 116, 58, 32, 97, 13, 10]
theorem fx3_eq : parseV fx3 = (zRq, 0, 150) := by kernel_rfl
def fx4 : Bs := [80, 79, 83, 84, 32, 47, 120, 32, 72, 84, 84, 80, 47, 49, 46, 49, 13, 10, 104, 111, 115, 116, 58, 97, 13, 10, 116, 114, 97, 110, 115, 102, 101, 114, 45, 101, 110, 99, 111, 100, 105, 110, 103, 58, 32, 67, 104, 117, 110, 107, 101, 100, 13, 10, 13, 10, 51, 13, 10, 97, 98, 99, 13, 10, 48, 13, 10, 13, 10, 114, 101, 115, 116]
theorem fx4_eq : parseV fx4 = (⟨[80, 79, 83, 84], [47, 120], [([104, 111, 115, 116], [97])], [97, 98, 99]⟩, 69, 0) := by kernel_rfl
def fx5 : Bs := [80, 79, 83, 84, 32, 47, 120, 32, 72, 84, 84, 80, 47, 49, 46, 49, 13, 10, 104, 111, 115, 116, 58, 97, 13, 10, 99, 111, 110, 116, 101, 110, 116, 45, 108, 101, 110, 103, 116, 104, 58, 32, 56, 49, 57, 51, 13, 10, 13, 10]
theorem fx5_eq : parseV fx5 = (zRq, 0, 153) := by kernel_rfl
def fxA : Bs := [72, 84, 84, 80, 47, 49, 46, 49, 32, 52, 48, 49, 32, 85, 110, 97, 117, 116, 104, 111, 114, 105, 122, 101, 100, 13, 10, 100, 112, 111, 112, 45, 110, 111, 110, 99, 101, 58, 32, 110, 13, 10, 99, 111, 110, 116, 101, 110, 116, 45, 108, 101, 110, 103, 116, 104, 58, 32, 49, 13, 10, 13, 10, 120]
theorem fxA_eq : answerS ⟨401, [110], [120]⟩ = (fxA, 0) := by kernel_rfl
def fxQ : Rq := (⟨[71, 69, 84], [47], [([104, 111, 115, 116], [97, 46, 98])], []⟩ : Rq)
theorem fxQ_small : SmallQ fxQ := ⟨by decide, by decide, by decide, by decide, fun x hx => by
  have : x = ([104, 111, 115, 116], [97, 46, 98]) := by simpa [fxQ] using hx
  subst this; decide, by decide⟩
theorem fxQ_lab : labelS fxQ = [97] := by kernel_rfl
theorem fxQ_get : getS fxQ wHost = [[97, 46, 98]] := by kernel_rfl
theorem fxQ_ok : LabOk fxQ := fun v l h c hc => by
  rw [fxQ_get] at h
  cases h
  simp only [List.mem_cons, List.not_mem_nil, or_false] at hc
  rcases hc with rfl | rfl | rfl <;> decide
set_option maxRecDepth 100000 in
set_option maxHeartbeats 8000000 in
theorem fixed_any (w : World) (hgw : Gw w) : Calls Tryz.prog 18 #[] w (RetB true w) := by
  have hMX := MX_eq
  have hR := Rws.start w
  obtain ⟨Z, eZ⟩ : ∃ Z : ByteArray, Z = bs [] := ⟨_, rfl⟩
  obtain ⟨M1, eM1⟩ : ∃ M1 : ByteArray, M1 = bs [71, 69, 84] := ⟨_, rfl⟩
  obtain ⟨T1, eT1⟩ : ∃ T1 : ByteArray, T1 = bs [47] := ⟨_, rfl⟩
  obtain ⟨B1, eB1⟩ : ∃ B1 : ByteArray, B1 = bs [] := ⟨_, rfl⟩
  obtain ⟨M4, eM4⟩ : ∃ M4 : ByteArray, M4 = bs [80, 79, 83, 84] := ⟨_, rfl⟩
  obtain ⟨T4, eT4⟩ : ∃ T4 : ByteArray, T4 = bs [47, 120] := ⟨_, rfl⟩
  obtain ⟨B4, eB4⟩ : ∃ B4 : ByteArray, B4 = bs [97, 98, 99] := ⟨_, rfl⟩
  have H1 : Hid (∀ u, Below w.heap.size w u → Calls Tryz.prog 10 #[.string ⟨#[71, 69, 84, 32, 47, 32, 72, 84, 84, 80, 47, 49, 46, 49, 13, 10, 72, 111, 115, 116, 58, 32, 32, 97, 46, 98, 13, 10, 13, 10, 120]⟩] u fun e w' => ∃ ad c, e = .returned (.tuple #[.agg #[.string M1, .string T1, .slice ad 1 c, .string B1], .int .i64 30, .int .i64 0]) ∧ SlH w' fxQ.hs ad c ∧ Below u.heap.size u w') := Lib.hid fun u hb => (Parse_any fx1 u (by decide) (hgw.below hb)).mono fun e w' hh => by
    rw [fx1_eq] at hh
    obtain ⟨ad, c, h1, h2, h3⟩ := hh
    exact ⟨ad, c, by rw [h1, eB1, eM1, eT1]; rfl, h2, h3⟩
  have H2 : Hid (∀ u, Below w.heap.size w u → Calls Tryz.prog 10 #[.string ⟨#[71, 69, 84, 32, 47, 32, 72, 84, 84, 80, 47, 49, 46, 49, 13, 10, 72, 111, 115, 116, 32, 58, 32, 97, 13, 10, 13, 10]⟩] u fun e w' => ∃ ad c, e = .returned (.tuple #[.agg #[.string Z, .string Z, .slice ad 0 c, .string Z], .int .i64 0, .int .i64 151]) ∧ Below u.heap.size u w') := Lib.hid fun u hb => (Parse_any fx2 u (by decide) (hgw.below hb)).mono fun e w' hh => by
    rw [fx2_eq] at hh
    obtain ⟨ad, c, h1, h2, h3⟩ := hh
    exact ⟨ad, c, by rw [h1, eZ]; rfl, h3⟩
  have H3 : Hid (∀ u, Below w.heap.size w u → Calls Tryz.prog 10 #[.string ⟨#[71, 69, 84, 32, 47, 32, 72, 84, 84, 80, 47, 49, 46, 49, 13, 10, 72, 111, 115, 116, 58, 32, 97, 13, 10]⟩] u fun e w' => ∃ ad c, e = .returned (.tuple #[.agg #[.string Z, .string Z, .slice ad 0 c, .string Z], .int .i64 0, .int .i64 150]) ∧ Below u.heap.size u w') := Lib.hid fun u hb => (Parse_any fx3 u (by decide) (hgw.below hb)).mono fun e w' hh => by
    rw [fx3_eq] at hh
    obtain ⟨ad, c, h1, h2, h3⟩ := hh
    exact ⟨ad, c, by rw [h1, eZ]; rfl, h3⟩
  have H4 : Hid (∀ u, Below w.heap.size w u → Calls Tryz.prog 10 #[.string ⟨#[80, 79, 83, 84, 32, 47, 120, 32, 72, 84, 84, 80, 47, 49, 46, 49, 13, 10, 104, 111, 115, 116, 58, 97, 13, 10, 116, 114, 97, 110, 115, 102, 101, 114, 45, 101, 110, 99, 111, 100, 105, 110, 103, 58, 32, 67, 104, 117, 110, 107, 101, 100, 13, 10, 13, 10, 51, 13, 10, 97, 98, 99, 13, 10, 48, 13, 10, 13, 10, 114, 101, 115, 116]⟩] u fun e w' => ∃ ad c, e = .returned (.tuple #[.agg #[.string M4, .string T4, .slice ad 1 c, .string B4], .int .i64 69, .int .i64 0]) ∧ Below u.heap.size u w') := Lib.hid fun u hb => (Parse_any fx4 u (by decide) (hgw.below hb)).mono fun e w' hh => by
    rw [fx4_eq] at hh
    obtain ⟨ad, c, h1, h2, h3⟩ := hh
    exact ⟨ad, c, by rw [h1, eB4, eM4, eT4]; rfl, h3⟩
  have H5 : Hid (∀ u, Below w.heap.size w u → Calls Tryz.prog 10 #[.string ⟨#[80, 79, 83, 84, 32, 47, 120, 32, 72, 84, 84, 80, 47, 49, 46, 49, 13, 10, 104, 111, 115, 116, 58, 97, 13, 10, 99, 111, 110, 116, 101, 110, 116, 45, 108, 101, 110, 103, 116, 104, 58, 32, 56, 49, 57, 51, 13, 10, 13, 10]⟩] u fun e w' => ∃ ad c, e = .returned (.tuple #[.agg #[.string Z, .string Z, .slice ad 0 c, .string Z], .int .i64 0, .int .i64 153]) ∧ Below u.heap.size u w') := Lib.hid fun u hb => (Parse_any fx5 u (by decide) (hgw.below hb)).mono fun e w' hh => by
    rw [fx5_eq] at hh
    obtain ⟨ad, c, h1, h2, h3⟩ := hh
    exact ⟨ad, c, by rw [h1, eZ]; rfl, h3⟩
  obtain ⟨X, eX⟩ : ∃ X : ByteArray, X = bs fxA := ⟨_, rfl⟩
  have HA : Hid (∀ u, Below w.heap.size w u → Calls Tryz.prog 21 #[.agg #[.int .i64 401, .string ⟨#[110]⟩, .string ⟨#[120]⟩]] u fun e w' => e = .returned (.tuple #[.string X, .int .i64 0]) ∧ Below u.heap.size u w') := Lib.hid fun u hb => (Answer_any ⟨401, [110], [120]⟩ u (by decide) (by decide) (hgw.below hb)).mono fun e w' hh => by
    obtain ⟨h1, h2⟩ := hh
    rw [fxA_eq] at h1
    exact ⟨by rw [h1, eX], h2⟩
  obtain ⟨Y, eY⟩ : ∃ Y : ByteArray, Y = bs [97] := ⟨_, rfl⟩
  obtain ⟨AB, eAB⟩ : ∃ AB : ByteArray, AB = bs [97, 46, 98] := ⟨_, rfl⟩
  have HL : Hid (∀ ad c u, SlH u fxQ.hs ad c → Calls Tryz.prog 13 #[.agg #[.string M1, .string T1, .slice ad 1 c, .string B1]] u (RetS Y u)) := Lib.hid fun ad c u hs => by
    have := Label_any fxQ ad c u hs fxQ_small fxQ_ok
    rw [fxQ_lab] at this
    rw [eY, eM1, eT1, eB1]
    exact this
  have HG : Hid (∀ ad c u, SlH u fxQ.hs ad c → Calls Tryz.prog 16 #[.agg #[.string M1, .string T1, .slice ad 1 c, .string B1], .string ⟨#[104, 111, 115, 116]⟩] u fun e w' => ∃ b c, e = .returned (.slice (some ⟨b, 0, none⟩) 1 c) ∧ 1 ≤ c ∧ c ≤ MX ∧ w'.cell? ⟨b, 0, none⟩ = some (.string AB) ∧ Below u.heap.size u w') := Lib.hid fun ad c u hs => by
    have h0 := Get_any fxQ ad c wHost u hs fxQ_small
    rw [fxQ_get] at h0
    rw [eM1, eT1, eB1, eAB]
    refine Calls.mono (P := Tryz.prog) h0 fun e w' hh => ?_
    obtain ⟨a, c, h1, ⟨h2, h3, h4⟩, h5⟩ := hh
    rcases h4 with h4 | ⟨b, h4, h6⟩
    · cases h4
    · subst h4
      exact ⟨b, c, h1, h2, h3, h6 0 _ rfl, h5⟩
  have q1 : (M1.toList == [71, 69, 84]) = true := by rw [eM1, bs_list]; rfl
  have q2 : (Y.toList == [97]) = true := by rw [eY, bs_list]; rfl
  have q3 : (AB.toList == [97, 46, 98]) = true := by rw [eAB, bs_list]; rfl
  have q4 : (B4.toList == [97, 98, 99]) = true := by rw [eB4, bs_list]; rfl
  have q5 : (X.toList == [72, 84, 84, 80, 47, 49, 46, 49, 32, 52, 48, 49, 32, 85, 110, 97, 117, 116, 104, 111, 114, 105, 122, 101, 100, 13, 10, 100, 112, 111, 112, 45, 110, 111, 110, 99, 101, 58, 32, 110, 13, 10, 99, 111, 110, 116, 101, 110, 116, 45, 108, 101, 110, 103, 116, 104, 58, 32, 49, 13, 10, 13, 10, 120]) = true := by rw [eX, bs_list]; rfl
  clear eZ eM1 eT1 eB1 eM4 eT4 eB4 eX eY eAB
  clear hgw
  go_enter Tryz.func18, Tryz.ntmps18
  go_upto_region 2 with (first
    | (go_at_call 10; refine (H1.out _ hR.below).mono ?_; rintro e wa1 ⟨ad1, c1, rfl, hs1, hb1⟩; have hR := hR.call hb1; have HB1 := Lib.hid hR.below; have hR := Rws.start wa1)
    | (refine wQ_alloc (cs := zQ) rfl _ (by rfl) (by exact hR) zero_rq ?_; intro g1 wb1 hR hbw1 hgw1)
    | (refine wQ_store rfl _ _ _ (by rfl) (by exact hR) g1 rfl #[.string M1, .string T1, .slice ad1 1 c1, .string B1] (by rfl) _ _ _ (by repeat (first | exact Pick.here | apply Pick.there)) (by kernel_rfl) (by kernel_rfl) (by kernel_rfl) ?_; intro wc1 hR hsm1 hsz1))
  clear hb1 hbw1 hgw1 hsm1 hsz1 H1
  have HS1 := Lib.hid hs1
  clear hs1
  go_upto_region 3 with (first
    | (go_at_call 10; refine (H2.out _ (HB1.out.trans (hR.below.mono HB1.out.size))).mono ?_; rintro e wa2 ⟨ad2, c2, rfl, hb2⟩; have hR := hR.call hb2)
    | (refine wQ_alloc (cs := zQ) rfl _ (by rfl) (by exact hR) zero_rq ?_; intro g4 wb2 hR hbw2 hgw2)
    | (refine wQ_store rfl _ _ _ (by rfl) (by exact hR) g4 rfl #[.string Z, .string Z, .slice ad2 0 c2, .string Z] (by rfl) _ _ _ (by repeat (first | exact Pick.here | apply Pick.there)) (by kernel_rfl) (by kernel_rfl) (by kernel_rfl) ?_; intro wc2 hR hsm2 hsz2))
  clear hb2 hbw2 hgw2 hsm2 hsz2 H2
  go_upto_region 4 with (first
    | (go_at_call 10; refine (H3.out _ (HB1.out.trans (hR.below.mono HB1.out.size))).mono ?_; rintro e wa3 ⟨ad3, c3, rfl, hb3⟩; have hR := hR.call hb3)
    | (refine wQ_alloc (cs := zQ) rfl _ (by rfl) (by exact hR) zero_rq ?_; intro g7 wb3 hR hbw3 hgw3)
    | (refine wQ_store rfl _ _ _ (by rfl) (by exact hR) g7 rfl #[.string Z, .string Z, .slice ad3 0 c3, .string Z] (by rfl) _ _ _ (by repeat (first | exact Pick.here | apply Pick.there)) (by kernel_rfl) (by kernel_rfl) (by kernel_rfl) ?_; intro wc3 hR hsm3 hsz3))
  clear hb3 hbw3 hgw3 hsm3 hsz3 H3
  go_upto_region 5 with (first
    | (go_at_call 10; refine (H4.out _ (HB1.out.trans (hR.below.mono HB1.out.size))).mono ?_; rintro e wa4 ⟨ad4, c4, rfl, hb4⟩; have hR := hR.call hb4)
    | (refine wQ_alloc (cs := zQ) rfl _ (by rfl) (by exact hR) zero_rq ?_; intro g10 wb4 hR hbw4 hgw4)
    | (refine wQ_store rfl _ _ _ (by rfl) (by exact hR) g10 rfl #[.string M4, .string T4, .slice ad4 1 c4, .string B4] (by rfl) _ _ _ (by repeat (first | exact Pick.here | apply Pick.there)) (by kernel_rfl) (by kernel_rfl) (by kernel_rfl) ?_; intro wc4 hR hsm4 hsz4))
  clear hb4 hbw4 hgw4 hsm4 hsz4 H4
  go_upto_region 6 with (first
    | (go_at_call 10; refine (H5.out _ (HB1.out.trans (hR.below.mono HB1.out.size))).mono ?_; rintro e wa5 ⟨ad5, c5, rfl, hb5⟩; have hR := hR.call hb5)
    | (refine wQ_alloc (cs := zQ) rfl _ (by rfl) (by exact hR) zero_rq ?_; intro g13 wb5 hR hbw5 hgw5)
    | (refine wQ_store rfl _ _ _ (by rfl) (by exact hR) g13 rfl #[.string Z, .string Z, .slice ad5 0 c5, .string Z] (by rfl) _ _ _ (by repeat (first | exact Pick.here | apply Pick.there)) (by kernel_rfl) (by kernel_rfl) (by kernel_rfl) ?_; intro wc5 hR hsm5 hsz5))
  clear hb5 hbw5 hgw5 hsm5 hsz5 H5
  go_upto_region 7 with (go_at_call 21; refine (HA.out _ (HB1.out.trans (hR.below.mono HB1.out.size))).mono ?_; rintro e wd ⟨rfl, hbd⟩; have hR := hR.call hbd)
  go_upto_region 8 with (first
    | (refine wpList_load_rws rfl _ _ (by rfl) (by exact hR) g1 rfl _ _ (by repeat (first | exact List.Mem.head _ | refine List.Mem.tail _ ?_)) _ Tryz.underlying24 rfl (by kernel_rfl) ?_)
    | (go_at_call 16; refine (HG.out _ _ _ (HS1.out.grown hR.below)).mono ?_; rintro e we ⟨bl, cl, rfl, hcl, hcm, f0, hbe⟩; have hR := hR.call hbe))
  have m0 : we.cell? ⟨g1, 0, none⟩ = some (.string M1) := hR.cellAt (g := g1) (by repeat (first | exact List.Mem.head _ | refine List.Mem.tail _ ?_)) 0 rfl
  have m1 : we.cell? ⟨g1, 1, none⟩ = some (.string T1) := hR.cellAt (g := g1) (by repeat (first | exact List.Mem.head _ | refine List.Mem.tail _ ?_)) 1 rfl
  have m2 : we.cell? ⟨g1, 2, none⟩ = some (.slice ad1 1 c1) := hR.cellAt (g := g1) (by repeat (first | exact List.Mem.head _ | refine List.Mem.tail _ ?_)) 2 rfl
  have m3 : we.cell? ⟨g1, 3, none⟩ = some (.string B1) := hR.cellAt (g := g1) (by repeat (first | exact List.Mem.head _ | refine List.Mem.tail _ ?_)) 3 rfl
  have m4 : we.cell? ⟨g10, 3, none⟩ = some (.string B4) := hR.cellAt (g := g10) (by repeat (first | exact List.Mem.head _ | refine List.Mem.tail _ ?_)) 3 rfl
  have f0k : ∀ u, Below we.heap.size we u → u.cell? ⟨bl, 0, none⟩ = some (.string AB) := fun u hb => (hb.cell (p := ⟨bl, 0, none⟩) (World.block_lt_of_cell? we _ f0)).trans f0
  have F0K := Lib.hid f0k
  clear f0k hbe hbd
  go_wp2_with (go_at_call 13; refine (HL.out _ _ _ (HS1.out.grown hR.below)).mono ?_; rintro e wf ⟨rfl, hbf⟩; have hR := hR.call hbf; have f0 := F0K.out _ hbf; have m4 := hR.cellAt (g := g10) (by repeat (first | exact List.Mem.head _ | refine List.Mem.tail _ ?_)) 3 rfl)
  go_ret
  exact ⟨rfl, HB1.out.trans (hR.below.mono HB1.out.size)⟩
end Go.Proofs.YtipjkjcmceeaeaaGreatDoor
