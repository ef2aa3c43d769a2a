/- ostiarylaw20.fixed: it answers true. -/
import Derived.Test.YthpagppipifgeaaGreatDoorZLS
import Derived.Test.YthpagppipifgeaaGreatDoorZLW
namespace Go.Proofs.YthpagppipifgeaaGreatDoor
open Go.RowKit

theorem zero_facts : ∀ w : World, (zeroValue 27).run Tryz.prog w = .ok (.agg #[.string ⟨#[]⟩, .string ⟨#[]⟩, .slice none 0 0, .slice none 0 0]) w := Tryz.zeroValue27
theorem pz_slq {Q : Nat → Prop} {w : World} {F : Fo} {ad : Option Addr} {c : Nat} (h : SlQ Q w F ad c) : SlF w F ad c := h.slf
set_option maxRecDepth 100000 in
theorem txtM (M : Nat) (u : World) : (convert 51 9 (.slice (some ⟨u.heap.size, 0, none⟩) M M)).run Tryz.prog (u.alloc (.cells (madeCells #[.int .u8 0] M) 5)) = .ok (.string (bs (List.replicate M 0))) (u.alloc (.cells (madeCells #[.int .u8 0] M) 5)) :=
  run_textB u.heap.size M (List.replicate M 0) _ List.length_replicate (fun j v hj => by
    have hR := (Rws.start u).alloc (madeCells #[.int .u8 0] M) 5
    have hb : (bvs (List.replicate M 0))[j]? = (madeCells #[Value.int .u8 0] M)[j]? := by
      by_cases h : j < M
      · have : j % 1 = 0 := Nat.mod_one j
        simp [bvs, madeCells, h, this]
      · rw [List.getElem?_eq_none (by rw [bvs_len, List.length_replicate]; omega), Array.getElem?_eq_none (by rw [size_madeCells]; omega)]
    rw [Addr.add_lit, Nat.zero_add]
    exact hR.cellAt (List.Mem.head _) j (hb ▸ hj))
/-- What is in memory of the facts. -/
theorem facts_at {w : World} {gA gB : Nat} {B : Nat} {w0 : World} {L : List (Nat × Array Value × TypeId)} (h : Rws B w0 w L) (hA : (gA, #[.string ⟨#[120]⟩, .string ⟨#[121]⟩], 9) ∈ L) (hB : (gB, #[.string ⟨#[114, 111, 108, 101]⟩, .slice (some ⟨gA, 0, none⟩) 2 2], 45) ∈ L) : FxAt w (fx1 (some ⟨gB, 0, none⟩) 1) := by
  refine ⟨⟨Nat.le_refl _, (show 1 ≤ MX by decide), gB, 0, Or.inl rfl, ⟨some ⟨gA, 0, none⟩, 2, h.cellAt hB 0 rfl, h.cellAt hB 1 rfl, Nat.le_refl _, (show 2 ≤ MX by decide), gA, 0, Or.inl rfl, ?_⟩, trivial⟩, ⟨Nat.le_refl _, (show 0 ≤ MX by decide), 0, 0, Or.inr ⟨rfl, rfl⟩, trivial⟩⟩
  intro j s hj
  match j, hj with
  | 0, hj => cases hj; exact h.cellAt hA 0 rfl
  | 1, hj => cases hj; exact h.cellAt hA 1 rfl
theorem ne_t2 : t2.toList = [109, 101, 116, 104, 111, 100, 32, 105, 115, 32, 34, 71, 69, 84, 34, 32, 97, 110, 100, 32, 40, 99, 108, 97, 105, 109, 46, 114, 111, 108, 101, 32, 104, 97, 115, 32, 34, 120, 34, 32, 111, 114, 32, 110, 111, 116, 32, 99, 101, 114, 116, 46, 99, 110, 32, 105, 115, 32, 34, 121, 34, 41] := by rw [dl]; rfl
set_option maxRecDepth 100000 in
set_option maxHeartbeats 4000000 in
theorem fixed_any (w : World) : Calls Tryz.prog 15 #[] w (RetB true w) := by
  have HP1 : Hid (∀ u, Calls Tryz.prog 16 #[.string t1] u (PRet (P1, 0) u)) := Lib.hid fun u => by
    have h := Parse_any t1 u
    rw [parse1] at h
    exact h
  have HP2 : Hid (∀ u, Calls Tryz.prog 16 #[.string ⟨#[110, 111, 116, 97, 108, 119, 97, 121, 115]⟩] u (PRet (zPo, 200) u)) := Lib.hid fun u => by
    have h := Parse_any ⟨#[110, 111, 116, 97, 108, 119, 97, 121, 115]⟩ u
    rw [show ParseR (⟨#[110, 111, 116, 97, 108, 119, 97, 121, 115]⟩ : ByteArray).data.toList = _ from parse2] at h
    exact h
  have HP3 : Hid (∀ u, Calls Tryz.prog 16 #[.string ⟨#[112, 97, 116, 104, 32, 105, 115, 32, 34, 92, 120, 34]⟩] u (PRet (zPo, 200) u)) := Lib.hid fun u => by
    have h := Parse_any ⟨#[112, 97, 116, 104, 32, 105, 115, 32, 34, 92, 120, 34]⟩ u
    rw [show ParseR (⟨#[112, 97, 116, 104, 32, 105, 115, 32, 34, 92, 120, 34]⟩ : ByteArray).data.toList = _ from parse3] at h
    exact h
  have HP4 : Hid (∀ u, Calls Tryz.prog 16 #[.string (bs (List.replicate 1025 0))] u (PRet (zPo, 201) u)) := Lib.hid fun u => by
    have := Parse_any (bs (List.replicate 1025 0)) u
    rw [bs_data, parse4] at this
    exact this
  have HR1 : Hid (∀ u ad c, SlF u k1 ad c → Calls Tryz.prog 9 #[pv 2 0 e0 e0 ad k1.len c] u (RetSI t2 0 u)) := Lib.hid fun u ad c hs => by
    have := Print_any 2 0 e0 e0 k1 ad c u (by decide) (by decide) (fun _ => cnt1) hs
    rw [print1, bs_of] at this
    exact this
  have HH1 : Hid (∀ u ad c a1 c1, SlF u k1 ad c → FxAt u (fx1 a1 c1) → Calls Tryz.prog 13 #[pv 2 0 e0 e0 ad k1.len c, (fx1 a1 c1).v] u (RetB true u)) := Lib.hid fun u ad c a1 c1 hs hx => by
    have h := Holds_any 2 0 e0 e0 k1 ad c (fx1 a1 c1) u (by decide) (by decide) hs hx
    rw [hold1 a1 c1] at h
    exact h
  have HH2 : Hid (∀ u a1 c1, FxAt u (fx1 a1 c1) → Calls Tryz.prog 13 #[pv 4 2 b_role b_y none 0 0, (fx1 a1 c1).v] u (RetB false u)) := Lib.hid fun u a1 c1 hx => by
    have h := Holds_any 4 2 b_role b_y .nil none 0 (fx1 a1 c1) u (by decide) (by decide) (SlQ.nil (fun _ => True) u).slf hx
    rw [hold2 a1 c1] at h
    exact h
  have HH3 : Hid (∀ u a1 c1, FxAt u (fx1 a1 c1) → Calls Tryz.prog 13 #[pv 5 1 e0 (bs [47, 97]) none 0 0, (fx1 a1 c1).v] u (RetB true u)) := Lib.hid fun u a1 c1 hx => by
    have h := Holds_any 5 1 e0 (bs [47, 97]) .nil none 0 (fx1 a1 c1) u (by decide) (by decide) (SlQ.nil (fun _ => True) u).slf hx
    rw [hold3 a1 c1] at h
    exact h
  have HC1 : Hid (∀ u, Calls Tryz.prog 11 #[pv 0 0 e0 e0 none 0 0] u (RetI 0 u)) := Lib.hid fun u => by
    have h := Check_any 0 0 e0 e0 .nil none 0 u (by decide) (by decide) (SlQ.nil (fun _ => True) u).slf
    rw [chk1] at h
    exact h
  have HC2 : Hid (∀ u, Calls Tryz.prog 11 #[pv 9 0 e0 e0 none 0 0] u (RetI 202 u)) := Lib.hid fun u => by
    have h := Check_any 9 0 e0 e0 .nil none 0 u (by decide) (by decide) (SlQ.nil (fun _ => True) u).slf
    rw [chk2] at h
    exact h
  obtain ⟨zs, hzs⟩ : ∃ zs, zs = madeCells #[Value.int .u8 0] 1025 := ⟨_, rfl⟩
  have hmk : ∀ u : World, (Instr.makeSlice 51 (.int .i64 1025) (.int .i64 1025)).run Tryz.prog u = .ok (.slice (some ⟨u.heap.size, 0, none⟩) 1025 1025) (u.alloc (.cells (madeCells #[.int .u8 0] 1025) 5)) := fun u => run_makeB' 1025 (by omega) u
  have hcv := txtM 1025
  obtain ⟨z4, hz4⟩ : ∃ z4 : List UInt8, z4 = List.replicate 1025 0 := ⟨_, rfl⟩
  rw [← hz4] at HP4 hcv
  rw [← hzs] at hmk hcv
  clear hzs hz4
  go_enter Tryz.func15, Tryz.ntmps15
  go_upto_region 2 with (first
    | (go_at_call 16; refine (HP1.out _).mono ?_; rintro e v1 ⟨⟨ad1, c1, rfl, hs1⟩, _, _, hb1⟩; have hR := Rws.start v1; have HS := Lib.hid hs1.slf; have HB := Lib.hid hb1; clear hs1 hb1)
    | (refine wQ_alloc (cs := zP) rfl _ (by rfl) (by assumption) zero_pol ?_; intro g1 w2 hR hbg1 hg1) | (refine wQ_store rfl _ _ _ (by rfl) (by assumption) _ rfl #[.int .i64 2, .int .i64 0, .string e0, .string e0, .slice ad1 2 c1] (by rfl) _ _ _ (by repeat (first | exact Pick.here | apply Pick.there)) (by kernel_rfl) (by kernel_rfl) (by kernel_rfl) ?_; intro w3 hR hsm hsz; clear hsm hsz))
  clear hbg1
  go_upto_region 3 with (first
    | (go_at_call 9; refine (HR1.out _ _ _ (HS.out.grown hR.below)).mono ?_; rintro e v2 ⟨rfl, hb2⟩; have hR := hR.call hb2)
    | (refine wpList_load_rws rfl _ _ (by rfl) (by assumption) _ rfl _ _ (by repeat (first | exact List.Mem.head _ | refine List.Mem.tail _ ?_)) _ Tryz.underlying24 rfl (by kernel_rfl) ?_))
  go_upto_region 4 with (first | (go_at_call 16; refine (HP2.out _).mono ?_; rintro e v2 ⟨⟨ad2, c2, rfl, hs2⟩, _, _, hb2⟩; have hR := hR.call hb2) | (refine wQ_alloc (cs := zP) rfl _ (by rfl) (by assumption) zero_pol ?_; intro g5 w5 hR hbg5 hg5) | (refine wQ_store rfl _ _ _ (by rfl) (by assumption) _ rfl #[.int .i64 0, .int .i64 0, .string e0, .string e0, .slice ad2 0 c2] (by rfl) _ _ _ (by repeat (first | exact Pick.here | apply Pick.there)) (by kernel_rfl) (by kernel_rfl) (by kernel_rfl) ?_; intro w6 hR hsm hsz; clear hsm hsz))
  go_upto_region 5 with (first | (go_at_call 16; refine (HP3.out _).mono ?_; rintro e v3 ⟨⟨ad3, c3, rfl, hs3⟩, _, _, hb3⟩; have hR := hR.call hb3) | (refine wQ_alloc (cs := zP) rfl _ (by rfl) (by assumption) zero_pol ?_; intro g7 w7 hR hbg7 hg7) | (refine wQ_store rfl _ _ _ (by rfl) (by assumption) _ rfl #[.int .i64 0, .int .i64 0, .string e0, .string e0, .slice ad3 0 c3] (by rfl) _ _ _ (by repeat (first | exact Pick.here | apply Pick.there)) (by kernel_rfl) (by kernel_rfl) (by kernel_rfl) ?_; intro w8 hR hsm hsz; clear hsm hsz))
  go_upto_region 6 with (first | (go_at_call 16; refine (HP4.out _).mono ?_; rintro e v4 ⟨⟨ad4, c4, rfl, hs4⟩, _, _, hb4⟩; have hR := (hR.alloc _ _).call hb4) | (refine wQ_alloc (cs := zP) rfl _ (by rfl) (by assumption) zero_pol ?_; intro g9 w9 hR hbg9 hg9) | (refine wQ_store rfl _ _ _ (by rfl) (by assumption) _ rfl #[.int .i64 0, .int .i64 0, .string e0, .string e0, .slice ad4 0 c4] (by rfl) _ _ _ (by repeat (first | exact Pick.here | apply Pick.there)) (by kernel_rfl) (by kernel_rfl) (by kernel_rfl) ?_; intro w10 hR hsm hsz; clear hsm hsz))
  clear hbg5 hg5 hbg7 hg7 hbg9 hg9 hb2 hb3 hb4 hs2 hs3 hs4 hmk hcv HP1 HP2 HP3 HP4 HR1
  have hR0 := hR
  go_upto_region 7 with (first | (refine wQ_alloc (cs := #[.string ⟨#[]⟩, .string ⟨#[]⟩, .slice none 0 0, .slice none 0 0]) rfl _ (by rfl) (by exact (hR0.alloc _ _).alloc' (g := w10.heap.size + 1) (by simp) _ _) zero_facts ?_; intro g11 w11 hR hbg11 hg11) | (refine wQ_store rfl _ _ _ (by rfl) (by assumption) _ rfl #[.string ⟨#[71, 69, 84]⟩, .string ⟨#[47, 97, 47, 98]⟩, .slice (some ⟨w10.heap.size + 1, 0, none⟩) 1 1, .slice none 0 0] (by rfl) _ _ _ (by repeat (first | exact Pick.here | apply Pick.there)) (by kernel_rfl) (by kernel_rfl) (by kernel_rfl) ?_; intro w12 hR hsm hsz; clear hsm hsz))
  have hfx := facts_at hR (by repeat (first | exact List.Mem.head _ | refine List.Mem.tail _ ?_)) (by repeat (first | exact List.Mem.head _ | refine List.Mem.tail _ ?_))
  have hr0 := hR.below
  have hsl := HS.out.grown hr0
  have hne := ne_t2
  obtain ⟨gB, hgB⟩ : ∃ gB, gB = w10.heap.size + 1 := ⟨_, rfl⟩
  rw [← hgB] at hfx hR ⊢
  clear hgB hg11 hbg11 hR0
  have p0 := hR.cellAt (g := g1) (by repeat (first | exact List.Mem.head _ | refine List.Mem.tail _ ?_)) 0 rfl
  have p1 := hR.cellAt (g := g1) (by repeat (first | exact List.Mem.head _ | refine List.Mem.tail _ ?_)) 1 rfl
  have p2 := hR.cellAt (g := g1) (by repeat (first | exact List.Mem.head _ | refine List.Mem.tail _ ?_)) 2 rfl
  have p3 := hR.cellAt (g := g1) (by repeat (first | exact List.Mem.head _ | refine List.Mem.tail _ ?_)) 3 rfl
  have p4 := hR.cellAt (g := g1) (by repeat (first | exact List.Mem.head _ | refine List.Mem.tail _ ?_)) 4 rfl
  have f0 := hR.cellAt (g := g11) (by repeat (first | exact List.Mem.head _ | refine List.Mem.tail _ ?_)) 0 rfl
  have f1 := hR.cellAt (g := g11) (by repeat (first | exact List.Mem.head _ | refine List.Mem.tail _ ?_)) 1 rfl
  have f2 := hR.cellAt (g := g11) (by repeat (first | exact List.Mem.head _ | refine List.Mem.tail _ ?_)) 2 rfl
  have f3 := hR.cellAt (g := g11) (by repeat (first | exact List.Mem.head _ | refine List.Mem.tail _ ?_)) 3 rfl
  go_upto_region 9 with (first
    | (go_at_call 13; refine (HH1.out _ ad1 c1 _ _ hsl hfx).mono ?_; rintro e w13 ⟨rfl, hb13⟩; have hR := hR.call hb13; have hfx := hfx.below hb13 (Nat.le_refl _)))
  have HFX := Lib.hid hfx
  clear hfx hsl hr0 p0 p1 p2 p3 p4 f0 f1 f2 f3 HH1 hne
  go_upto_region 10 with (first
    | (refine wpList_load_rws rfl _ _ (by rfl) (by assumption) _ rfl _ _ (by repeat (first | exact List.Mem.head _ | refine List.Mem.tail _ ?_)) _ Tryz.underlying27 rfl (by kernel_rfl) ?_)
    | (go_at_call 13; refine (HH2.out _ _ _ HFX.out).mono ?_; rintro e w14 ⟨rfl, hb14⟩; have hR := hR.call hb14; have HFX := Lib.hid (HFX.out.below hb14 (Nat.le_refl _))))
  go_upto_region 11 with (first
    | (refine wpList_load_rws rfl _ _ (by rfl) (by assumption) _ rfl _ _ (by repeat (first | exact List.Mem.head _ | refine List.Mem.tail _ ?_)) _ Tryz.underlying27 rfl (by kernel_rfl) ?_)
    | (go_at_call 13; refine (HH3.out _ _ _ HFX.out).mono ?_; rintro e w15 ⟨rfl, hb15⟩; have hR := hR.call hb15))
  go_wp2_with (first
    | (go_at_call 11; refine (HC1.out _).mono ?_; rintro e w16 ⟨rfl, hb16⟩; have hR := hR.call hb16; clear HC1)
    | (go_at_call 11; refine (HC2.out _).mono ?_; rintro e w17 ⟨rfl, hb17⟩; have hR := hR.call hb17))
  go_ret
  exact ⟨rfl, b_trans HB.out hR.below⟩
end Go.Proofs.YthpagppipifgeaaGreatDoor
