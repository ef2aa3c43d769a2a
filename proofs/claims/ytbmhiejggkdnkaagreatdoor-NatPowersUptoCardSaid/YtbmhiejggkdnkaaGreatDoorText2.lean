/- Bits, Cmp, Pad: the walks. -/
import Derived.Test.YtbmhiejggkdnkaaGreatDoorText
namespace Go.Proofs.YtbmhiejggkdnkaaGreatDoor
open Go.RowKit

theorem str_size (l : List UInt8) : (ByteArray.mk l.toArray).size = l.length := by simp [ByteArray.size]

set_option maxRecDepth 100000 in
theorem Cmp_any (a b : ByteArray) (w : World) :
    Calls Tryz.prog 21 #[.string a, .string b] w fun e w' => e = .returned (.int .i64 (cmpN (nv a) (nv b))) ∧ ∃ q, w' = w.drewN q := by
  obtain ⟨la, hla⟩ : ∃ l, l = fm (nv a) := ⟨_, rfl⟩
  obtain ⟨lb, hlb⟩ : ∃ l, l = fm (nv b) := ⟨_, rfl⟩
  have HLA := Lib.hid hla; have HLB := Lib.hid hlb
  have hna : la.length = Dg.len 256 (nv a) := by rw [hla, fm_length]
  have hnb : lb.length = Dg.len 256 (nv b) := by rw [hlb, fm_length]
  have HNA := Lib.hid hna; have HNB := Lib.hid hnb
  clear hla hlb hna hnb
  obtain ⟨sa, hsa⟩ : ∃ s, s = ByteArray.mk la.toArray := ⟨_, rfl⟩
  obtain ⟨sb, hsb⟩ : ∃ s, s = ByteArray.mk lb.toArray := ⟨_, rfl⟩
  have ea : fm (bv a.data.toList) = la := HLA.out.symm
  have eb : fm (bv b.data.toList) = lb := HLB.out.symm
  have za : sa.size = la.length := by rw [hsa]; exact str_size la
  have zb : sb.size = lb.length := by rw [hsb]; exact str_size lb
  have da : sa.data.toList = la := by rw [hsa]
  have db : sb.data.toList = lb := by rw [hsb]
  have ca : ∀ w : World, Calls Tryz.prog 22 #[.string a] w fun e w' => e = .returned (.string sa) ∧ w = w' := fun w => by rw [hsa, ← ea]; exact Trim_any a w
  have cb : ∀ w : World, Calls Tryz.prog 22 #[.string b] w fun e w' => e = .returned (.string sb) ∧ w = w' := fun w => by rw [hsb, ← eb]; exact Trim_any b w
  have CA := Lib.hid ca; have CB := Lib.hid cb; have ZA := Lib.hid za; have ZB := Lib.hid zb; have DA := Lib.hid da; have DB := Lib.hid db
  clear hsa hsb ea eb za zb da db ca cb
  by_cases h1 : sa.size = sb.size
  · have hc : Lib.compareBytes la lb = cmpN (nv a) (nv b) := by
      rw [cmp_bytes la lb (by rw [← ZA.out, ← ZB.out]; exact h1), HLA.out, HLB.out, bv_fm, bv_fm]
    have HC := Lib.hid hc; clear hc
    go_enter Tryz.func21, Tryz.ntmps21
    go_wp2_with (first
      | (go_at_call_of 22 (Value.string a); refine (CA.out _).mono ?_; rintro e w' ⟨rfl, rfl⟩)
      | (go_at_call_of 22 (Value.string b); refine (CB.out _).mono ?_; rintro e w' ⟨rfl, rfl⟩)
      | (go_at_call 42; refine (Tryz.strings_Compare _ _ _).mono ?_; rintro e w' ⟨rfl, rfl⟩))
    go_ret
    exact ⟨ret_int (by rw [DA.out, DB.out, HC.out]), 0, rfl⟩
  · by_cases h2 : sa.size < sb.size
    · have hc : cmpN (nv a) (nv b) = -1 := cmpN_lt (Dg.lt_of_len (B := 256) (by omega) (by rw [← HNA.out, ← HNB.out, ← ZA.out, ← ZB.out]; exact h2))
      have HC := Lib.hid hc; clear hc
      go_enter Tryz.func21, Tryz.ntmps21
      go_wp2_with (first
        | (go_at_call_of 22 (Value.string a); refine (CA.out _).mono ?_; rintro e w' ⟨rfl, rfl⟩)
        | (go_at_call_of 22 (Value.string b); refine (CB.out _).mono ?_; rintro e w' ⟨rfl, rfl⟩))
      go_ret
      exact ⟨ret_int HC.out.symm, 0, rfl⟩
    · have hc : cmpN (nv a) (nv b) = 1 := cmpN_gt (Dg.lt_of_len (B := 256) (by omega) (by rw [← HNA.out, ← HNB.out, ← ZA.out, ← ZB.out]; omega))
      have HC := Lib.hid hc; clear hc
      go_enter Tryz.func21, Tryz.ntmps21
      go_wp2_with (first
        | (go_at_call_of 22 (Value.string a); refine (CA.out _).mono ?_; rintro e w' ⟨rfl, rfl⟩)
        | (go_at_call_of 22 (Value.string b); refine (CB.out _).mono ?_; rintro e w' ⟨rfl, rfl⟩))
      go_ret
      exact ⟨ret_int HC.out.symm, 0, rfl⟩

set_option maxRecDepth 100000 in
theorem Bits_any (a : ByteArray) (w : World) (ha : a.size ≤ 1152921504606846975) :
    Calls Tryz.prog 29 #[.string a] w fun e w' => e = .returned (.int .i64 (Dg.len 2 (nv a))) ∧ ∃ q, w' = w.drewN q := by
  obtain ⟨la, hla⟩ : ∃ l, l = fm (nv a) := ⟨_, rfl⟩
  have HLA := Lib.hid hla
  obtain ⟨sa, hsa⟩ : ∃ s, s = ByteArray.mk la.toArray := ⟨_, rfl⟩
  have ea : fm (bv a.data.toList) = la := HLA.out.symm
  have ca : ∀ w : World, Calls Tryz.prog 22 #[.string a] w fun e w' => e = .returned (.string sa) ∧ w = w' := fun w => by rw [hsa, ← ea]; exact Trim_any a w
  have CA := Lib.hid ca
  have za : sa.size = la.length := by rw [hsa]; exact str_size la
  clear hla ca ea
  by_cases h0 : nv a = 0
  · have hn : sa = ⟨#[]⟩ := by rw [hsa, HLA.out, h0, fm_zero]
    have hr : Dg.len 2 (nv a) = 0 := by rw [h0, Dg.len_zero]
    have HR := Lib.hid hr
    clear hsa h0 hr za
    subst hn
    go_enter Tryz.func29, Tryz.ntmps29
    go_wp2_with (go_at_call 22; refine (CA.out _).mono ?_; rintro e w' ⟨rfl, rfl⟩)
    go_ret
    exact ⟨ret_int (by rw [HR.out]; rfl), 0, rfl⟩
  · obtain ⟨c, r, hf, hl⟩ := top_bits (nv a) (by omega)
    have hlc : la = c :: r := by rw [HLA.out, hf]
    have hz : sa.size = r.length + 1 := by rw [za, hlc]; rfl
    have hne : sa.toList.isEmpty = false := by rw [Lib.toList_data, hsa]; show la.isEmpty = false; rw [hlc]; rfl
    have hsz : r.length + 1 ≤ 1152921504606846975 := by
      have h1 : Dg.len 256 (nv a) ≤ a.size := (Dg.len_le_iff (by omega) _ _).2 (by
        have h := bv_lt a.data.toList
        have e : a.data.toList.length = a.size := by simp
        rw [e] at h; exact h)
      have h2 := fm_length (nv a)
      rw [hf, List.length_cons] at h2
      omega
    have hcl : c.toNat < 256 := UInt8.toNat_lt _
    have hix : ∀ W : World, (Instr.index 9 (.string sa) (.int .i64 0)).run Tryz.prog W = .ok (.int .u8 (c.toNat : Nat)) W := fun W => by
      have h0 : 0 < sa.size := by omega
      have hg : sa[0]'h0 = c := by
        subst hsa
        show (la.toArray)[0]'_ = c
        simp [hlc]
      simp [Instr.index, asIntOf, run_underlying Tryz.underlying9, getElem?_pos sa 0 h0, hg]
    obtain ⟨cn, hcn⟩ : ∃ cn, cn = c.toNat := ⟨_, rfl⟩
    rw [← hcn] at hix hcl hl
    have hb : Lib.bitLen cn = Dg.len 2 cn := bitLen_len cn (by omega)
    have hb8 : Dg.len 2 cn ≤ 8 := (Dg.len_le_iff (by omega) cn 8).2 (by omega)
    have HL := Lib.hid hl; have HB := Lib.hid hb
    obtain ⟨n, hn⟩ : ∃ n, n = r.length := ⟨_, rfl⟩
    rw [← hn] at hz hsz
    have HN := Lib.hid hn
    clear hn hlc hf hl hb hcn hsa za h0
    go_enter Tryz.func29, Tryz.ntmps29
    go_wp2_with (first
      | (go_at_call 22; refine (CA.out _).mono ?_; rintro e w' ⟨rfl, rfl⟩)
      | (go_at_call 51; refine (Tryz.bits_LeadingZeros8 (cn : Int) _ (by omega) (by omega)).mono ?_; rintro e w' ⟨rfl, rfl⟩; rw [Int.toNat_natCast, HB.out]))
    go_ret
    exact ⟨ret_int (by rw [HL.out, ← HN.out]; omega), 0, rfl⟩
end Go.Proofs.YtbmhiejggkdnkaaGreatDoor
